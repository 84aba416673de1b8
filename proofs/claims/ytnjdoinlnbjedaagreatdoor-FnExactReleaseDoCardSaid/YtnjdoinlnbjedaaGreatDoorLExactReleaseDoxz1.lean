import Derived.Test.YtnjdoinlnbjedaaGreatDoorLExactReleaseDox1
import Derived.Test.YtnjdoinlnbjedaaGreatDoorEz1
import Derived.Test.YtnjdoinlnbjedaaGreatDoorKz2
import Derived.Test.YtnjdoinlnbjedaaGreatDoorRows
import Derived.Test.YtnjdoinlnbjedaaGreatDoorCards
import Derived.Test.YtnjdoinlnbjedaaGreatDoorTie
import Derived.WalkKit
import Derived.ProofKit
import Derived.OpenShut
import Derived.ShutString
import Derived.ChangeOld
import Derived.Below
import Derived.Carry
import Derived.SizedLaws
import Derived.Deep.DeepHandedRow
import Derived.Lib.LaidTab

section
namespace Go.Proofs.YtnjdoinlnbjedaaGreatDoor.Rf
open Go Go.RowKit
set_option linter.unusedVariables false
noncomputable section
def q3q.C (k : Nat) : CEs := [q14.e k, q15.e k]
abbrev q3q.ps : List Par := [⟨t38, .rd⟩, ⟨(.int .i64), .rd⟩]
abbrev q3q.rs : List Res := [⟨(.int .i64), .ro, false⟩]
def q3q.F := q4p E q3q.C [] Tryz.f31 q3q.ps q3q.rs
def q3q.f (k : Nat) (x0 : Book) (x1 : Int) : Option (Int) := q3q.F k (x0, x1)
theorem q3q.f_eq (k : Nat) (x0 : Book) (x1 : Int) : q3q.f k x0 x1 = (q14.f k x0.1 x1).bind fun (r0 : Int) => ifb (decide (r0 < 0)) (some (-1 : Int)) ((q15.f k x0.2 r0).bind fun (r1 : Int) => ifb (decide (r1 < 0)) (some (-1 : Int)) (some r1)) := by kernel_rfl
abbrev q3q.e (k : Nat) : FuncId × CE := (31, ⟨q3q.ps, q3q.rs, q3q.F k⟩)
theorem q3q.q (k : Nat) : Qs (q3q.e k) := qq (C := q3q.C) (fun k => .c (q14.q k) <| .c (q15.q k) <| .nil) k
def q03.C (k : Nat) : CEs := [q3v.e k, q3k.e k, q2x.e k, q33.e k, q2h.e k, q2d.e k, q3p.e k, q2q.e k, q36.e k, q2e.e k, q3q.e k]
abbrev q03.ps : List Par := [⟨.str, .rd⟩, ⟨(.int .i64), .rd⟩, ⟨t38, .rd⟩, ⟨t28, .rd⟩]
abbrev q03.rs : List Res := [⟨.bool, .ro, false⟩]
def q03.H : q4o := [(11, [(0, .ro), (1, .ro), (6, .ro), (7, .ro), (10, (.pr (.own .ro) (.own .ro))), (11, .ro)]), (16, [(0, .ro), (1, .ro), (6, .ro), (7, .ro), (10, (.pr (.own .ro) (.own .ro))), (11, .ro), (12, (.pr (.own .ro) (.own .ro))), (13, (.pr .ro (.pr (.pr (.own .ro) (.pr (.own .ro) (.pr .ro (.own .ro)))) .ro))), (14, (.pr (.own .ro) (.own .ro))), (15, .ro)]), (25, [(0, .ro), (1, .ro), (6, .ro), (7, .ro), (10, (.pr (.own .ro) (.own .ro))), (11, .ro), (14, (.pr (.own .ro) (.own .ro)))]), (34, [(10, (.pr (.own .ro) (.own .ro))), (11, .ro), (14, (.pr (.own .ro) (.own .ro))), (17, .ro), (19, (.pr (.own .ro) (.own .ro))), (20, .ro)])]
def q03.F := q4p E q03.C q03.H Tryz.f6 q03.ps q03.rs
def q03.J11 (k : Nat) (x0 : ByteArray) (x1 : Int) (x6 : Book) (x7 : Release) (x10 : Book) (x11 : Bool) : Option (Bool) := atJ E q03.C q03.H Tryz.f6 q03.ps q03.rs [true, true, true, true, true, true, true, true] 0 [] k (sh 132 [(0, .d .str x0 .ro), (1, .d (.int .i64) x1 .ro), (6, .box t38 x6 .ro none), (7, .box t28 x7 .ro none), (10, .box t38 x10 (.pr (.own .ro) (.own .ro)) none), (11, .d .bool x11 .ro)])
def q03.J16 (k : Nat) (x0 : ByteArray) (x1 : Int) (x6 : Book) (x7 : Release) (x10 : Book) (x11 : Bool) (x12 : Book) (x13 : Release) (x14 : Book) (x15 : Bool) : Option (Bool) := atJ E q03.C q03.H Tryz.f6 q03.ps q03.rs [true, true, true, true, true, true, true, true, true, true, true, true] 0 [0] k (sh 132 [(0, .d .str x0 .ro), (1, .d (.int .i64) x1 .ro), (6, .box t38 x6 .ro none), (7, .box t28 x7 .ro none), (10, .box t38 x10 (.pr (.own .ro) (.own .ro)) none), (11, .d .bool x11 .ro), (12, .box t38 x12 (.pr (.own .ro) (.own .ro)) none), (13, .box t28 x13 (.pr .ro (.pr (.pr (.own .ro) (.pr (.own .ro) (.pr .ro (.own .ro)))) .ro)) none), (14, .box t38 x14 (.pr (.own .ro) (.own .ro)) none), (15, .d .bool x15 .ro)])
def q03.J25 (k : Nat) (x0 : ByteArray) (x1 : Int) (x6 : Book) (x7 : Release) (x10 : Book) (x11 : Bool) (x14 : Book) : Option (Bool) := atJ E q03.C q03.H Tryz.f6 q03.ps q03.rs [true, true, true, true, true, true, true, true, true, true, true, true, true, true, true, true, true, true] 0 [0, 0] k (sh 132 [(0, .d .str x0 .ro), (1, .d (.int .i64) x1 .ro), (6, .box t38 x6 .ro none), (7, .box t28 x7 .ro none), (10, .box t38 x10 (.pr (.own .ro) (.own .ro)) none), (11, .d .bool x11 .ro), (14, .box t38 x14 (.pr (.own .ro) (.own .ro)) none)])
def q03.J34 (k : Nat) (x10 : Book) (x11 : Bool) (x14 : Book) (x17 : Int) (x19 : Book) (x20 : Bool) : Option (Bool) := atJ E q03.C q03.H Tryz.f6 q03.ps q03.rs [true, true, true, true, true, true, true, true, true, true, true, true, true, true, true, true, true, true, true, true, true, true, true, true, true] 0 [0, 0, 0] k (sh 132 [(10, .box t38 x10 (.pr (.own .ro) (.own .ro)) none), (11, .d .bool x11 .ro), (14, .box t38 x14 (.pr (.own .ro) (.own .ro)) none), (17, .d (.int .i64) x17 .ro), (19, .box t38 x19 (.pr (.own .ro) (.own .ro)) none), (20, .d .bool x20 .ro)])
def q03.f (k : Nat) (x0 : ByteArray) (x1 : Int) (x2 : Book) (x3 : Release) : Option (Bool) := q03.F k (x0, x1, x2, x3)
theorem q03.f_eq (k : Nat) (x0 : ByteArray) (x1 : Int) (x2 : Book) (x3 : Release) : q03.f k x0 x1 x2 x3 = ifb (decide ((x0.size : Int) > (1048576 : Int))) (some true) ((q3v.f k x2 (1048576 : Int)).bind fun (r0 : Int) => ifb (decide (r0 < 0)) (some true) ((q3k.f k x3 r0).bind fun (r1 : Int) => ifb (decide (r1 < 0)) (some true) ((q2x.f k x2).bind fun (r2 : Book) => (q33.f k x3).bind fun (r3 : Release) => (q2h.f k x0 x1 r2 r3).bind fun (r4 : Book × Bool) => q03.J11 k x0 x1 x2 x3 r4.1 r4.2))) := by kernel_rfl
theorem q03.J11_eq (k : Nat) (x0 : ByteArray) (x1 : Int) (x6 : Book) (x7 : Release) (x10 : Book) (x11 : Bool) : q03.J11 (k + 1) x0 x1 x6 x7 x10 x11 = (q2x.f k x6).bind fun (r5 : Book) => (q33.f k x7).bind fun (r6 : Release) => (q2d.f k x0 x1 r5 r6).bind fun (r7 : Book × Bool) => (q3p.f k r7.1 x10).bind fun (r8 : Bool) => ifb (!r8) (some false) (ifb (!(r7.2 == x11)) (some false) (q03.J16 k x0 x1 x6 x7 x10 x11 r5 r6 r7.1 r7.2)) := by kernel_rfl
theorem q03.J16_eq (k : Nat) (x0 : ByteArray) (x1 : Int) (x6 : Book) (x7 : Release) (x10 : Book) (x11 : Bool) (x12 : Book) (x13 : Release) (x14 : Book) (x15 : Bool) : q03.J16 (k + 1) x0 x1 x6 x7 x10 x11 x12 x13 x14 x15 = (q2x.f k x6).bind fun (r9 : Book) => (q3p.f k x12 r9).bind fun (r10 : Bool) => ifb (!r10) (some false) ((q33.f k x7).bind fun (r11 : Release) => (q2q.f k x13 r11).bind fun (r12 : Bool) => ifb (!r12) (some false) ((q36.f k x12 (1 : Int)).bind fun (r13 : Int × Book) => (q2e.f k x13 r13.1).bind fun (r14 : Int × Release) => ifb (decide (r14.1 < 0)) (some false) ((q3p.f k x14 x10).bind fun (r15 : Bool) => ifb (!r15) (some false) (ifb (!(x15 == x11)) (some false) (q03.J25 k x0 x1 x6 x7 x10 x11 x14))))) := by kernel_rfl
theorem q03.J25_eq (k : Nat) (x0 : ByteArray) (x1 : Int) (x6 : Book) (x7 : Release) (x10 : Book) (x11 : Bool) (x14 : Book) : q03.J25 (k + 1) x0 x1 x6 x7 x10 x11 x14 = (q36.f k x14 (1 : Int)).bind fun (r16 : Int × Book) => (q3q.f k r16.2 (1 : Int)).bind fun (r17 : Int) => ifb (decide (r17 < 0)) (some false) (ifb (r17 != r16.1) (some false) ((q2x.f k x6).bind fun (r18 : Book) => (q33.f k x7).bind fun (r19 : Release) => (q2d.f k x0 x1 r18 r19).bind fun (r20 : Book × Bool) => q03.J34 k x10 x11 r16.2 r16.1 r20.1 r20.2)) := by kernel_rfl
theorem q03.J34_eq (k : Nat) (x10 : Book) (x11 : Bool) (x14 : Book) (x17 : Int) (x19 : Book) (x20 : Bool) : q03.J34 (k + 1) x10 x11 x14 x17 x19 x20 = (q3p.f k x19 x10).bind fun (r21 : Bool) => ifb (!r21) (some false) (ifb (!(x20 == x11)) (some false) ((q3q.f k x14 (1 : Int)).bind fun (r22 : Int) => ifb (decide (r22 < 0)) (some false) (ifb (r22 != x17) (some false) (some true)))) := by kernel_rfl
abbrev q03.e (k : Nat) : FuncId × CE := (6, ⟨q03.ps, q03.rs, q03.F k⟩)
theorem q03.q (k : Nat) : Qs (q03.e k) := qq (C := q03.C) (fun k => .c (q3v.q k) <| .c (q3k.q k) <| .c (q2x.q k) <| .c (q33.q k) <| .c (q2h.q k) <| .c (q2d.q k) <| .c (q3p.q k) <| .c (q2q.q k) <| .c (q36.q k) <| .c (q2e.q k) <| .c (q3q.q k) <| .nil) k
end
end Go.Proofs.YtnjdoinlnbjedaaGreatDoor.Rf
end

section
namespace Go.Proofs.YtnjdoinlnbjedaaGreatDoor.Rf
open Go Go.RowKit
set_option linter.unusedVariables false
set_option linter.unusedSimpArgs false
def qie (l : List ByteArray) : Nat := l.length + qhx (fun s => s.size) l
def qif (d : Delta) : Nat := qie d.1 + (qhz d.2.1 + qhy d.2.2.2)
theorem qia (l : List ByteArray) (n : Int) (h0 : 0 ≤ n) (h1 : n ≤ 1048576) (hl : Big l.length) (hb : ∀ a ∈ l, Big a.size) : Al fun k => q1i.f k l n = some (q7o n (qie l)) := by
  obtain ⟨e1, f1⟩ := q62 n l.length h0 h1 hl
  by_cases g1 : n < l.length
  · refine Al.now fun k => ?_
    rw [q1i.f_eq]
    simp only [e1, f1]
    rw [decide_eq_true g1, q08, qie, q5j _ _ _ g1]
  · have key : ∀ (t : List ByteArray) (i : Nat) (m : Int), l.drop i = t → 0 ≤ m → m ≤ 1048576 → Al2 fun k k1 => q1i.L5 k k1 l m (i : Int) = some (q7o m (qhx (fun s => s.size) t)) := by
      intro t
      induction t with
      | nil =>
        intro i m hd g2 g3
        refine Al2.succ (Al2.now fun k k1 => ?_)
        simp only [q1i.L5_eq, at_end (drop_nil hd), q0d, qhx]
        rw [q7o, if_pos (by omega)]
        congr 1
        omega
      | cons x t ih =>
        intro i m hd g2 g3
        obtain ⟨hi, d1, d2⟩ := q3t bz hd
        obtain ⟨c1, c2, c3, c4⟩ := q66 hi (by omega)
        have hx : Big x.size := hb x (by rw [← d1, List.getD_eq_getElem?_getD, List.getElem?_eq_getElem hi]; exact List.getElem_mem hi)
        obtain ⟨e4, f4⟩ := q62 m x.size g2 g3 hx
        by_cases g4 : m < x.size
        · refine Al2.succ (Al2.now fun k k1 => ?_)
          simp only [q1i.L5_eq, c1, c2, c3, d1, Bool.and_self, q08, e4, f4]
          rw [decide_eq_true g4, q08, qhx, q5j _ _ _ g4]
        · refine Al2.succ ((ih (i + 1) (m - x.size) d2 (by omega) (by omega)).mono fun k k1 e => ?_)
          simp only [q1i.L5_eq, c1, c2, c3, d1, Bool.and_self, q08, e4, f4]
          simp only [w64, c4]
          rw [decide_eq_false g4, q0d, e, show m - (x.size : Int) = q7o m x.size from (if_pos (by omega)).symm, q77 _ _ _ (by omega), qhx]
    refine (key l 0 (n - l.length) rfl (by omega) (by omega)).diag.mono fun k e => ?_
    rw [q1i.f_eq]
    simp only [e1, f1]
    rw [decide_eq_false g1, q0d, show (0 : Int) = ((0 : Nat) : Int) from rfl, e, show n - (l.length : Int) = q7o n l.length from (if_pos (by omega)).symm, q77 _ _ _ (by omega), qie]
def bgD (d : Delta) : Prop := (Big d.1.length ∧ ∀ s ∈ d.1, Big s.size) ∧ (Big d.2.1.length ∧ ∀ e ∈ d.2.1, bgE e) ∧ Big d.2.2.2.length ∧ ∀ a ∈ d.2.2.2, bgA a
theorem qla (d : Delta) (n : Int) (h0 : 0 ≤ n) (h1 : n ≤ 1048576) (hd : bgD d) : Al fun k => q3u.f k d n = some (q7o n (qif d)) := by
  have s1 := qia d.1 n h0 h1 hd.1.1 hd.1.2
  by_cases g : n < qie d.1
  · refine s1.mono fun k e => ?_
    simp only [q3u.f_eq, e, Option.bind_some, q4v _ _ h0]
    rw [decide_eq_true g, q08, qif, q5j _ _ _ g]
  · have e1 : q7o n (qie d.1) = n - qie d.1 := if_pos (by omega)
    have s2 := qe7 d.2.1 (n - qie d.1) (by omega) (by omega) hd.2.1.1 hd.2.1.2
    by_cases g' : n - qie d.1 < qhz d.2.1
    · refine (s1.and s2).mono fun k ⟨e, e2⟩ => ?_
      simp only [q3u.f_eq, e, Option.bind_some, q4v _ _ h0]
      rw [decide_eq_false g, q0d, e1, e2, Option.bind_some, q4v _ _ (by omega), decide_eq_true g', q08, qif, ← Nat.add_assoc, q5j _ _ _ (by omega)]
    · have e1' : q7o (n - qie d.1) (qhz d.2.1) = n - qie d.1 - qhz d.2.1 := if_pos (by omega)
      have s3 := qao d.2.2.2 (n - qie d.1 - qhz d.2.1) (by omega) (by omega) hd.2.2.1 hd.2.2.2
      refine ((s1.and s2).and s3).mono fun k ⟨⟨e, e2⟩, e3⟩ => ?_
      simp only [q3u.f_eq, e, Option.bind_some, q4v _ _ h0]
      rw [decide_eq_false g, q0d, e1, e2, Option.bind_some, q4v _ _ (by omega), decide_eq_false g', q0d, e1', e3, Option.bind_some, ← e1', q77 _ _ _ (by omega), ← e1, q77 _ _ _ (by omega), qif]
      by_cases g2 : q7o n (qie d.1 + (qhz d.2.1 + qhy d.2.2.2)) < 0
      · rw [decide_eq_true g2, q08]
        have : q7o n (qie d.1 + (qhz d.2.1 + qhy d.2.2.2)) = -1 := by unfold q7o at *; split at g2 <;> split <;> omega
        rw [this]
      · rw [decide_eq_false g2, q0d]
theorem qsi {d : Delta} (h : qif d ≤ 1048576) : smD d := by
  unfold qif qhy qhz qie at h
  exact ⟨⟨by omega, fun s hs => by have := q9t (fun s : ByteArray => s.size) hs; unfold Sm; omega⟩, ⟨by omega, fun e he => qq8 (q9t szE he) (by omega)⟩, by omega, fun a ha => qq7 (q9t szA ha) (by omega)⟩
end Go.Proofs.YtnjdoinlnbjedaaGreatDoor.Rf
end

section
namespace Go.Proofs.YtnjdoinlnbjedaaGreatDoor.Rf
open Go Go.RowKit
set_option linter.unusedVariables false
set_option linter.unusedSimpArgs false
theorem qib (l : List ByteArray) (hl : l.length ≤ 1099511627776) : Al fun k => q1o.f k l = some l := by
  have hS : l.length ≤ 4611686018427387904 := by omega
  have key : ∀ (t : List ByteArray) (i : Nat), l.drop i = t → Al2 fun k k1 => q1o.L3 k k1 l (l.take i ++ List.replicate t.length bz) (i : Int) = some l := by
    intro t
    induction t with
    | nil =>
      intro i hd
      refine Al2.succ (Al2.now fun k k1 => ?_)
      have := drop_nil hd
      simp only [q1o.L3_eq, at_end this, q0d, List.length_nil, List.replicate_zero, List.append_nil]
      rw [List.take_of_length_le (by omega)]
    | cons x t ih =>
      intro i hd
      obtain ⟨hi, d1, d2⟩ := q3t bz hd
      obtain ⟨c1, c2, c3, c4⟩ := q66 hi hS
      have hti : (l.take i).length = i := by rw [List.length_take]; omega
      have hlt : decide ((i : Int) < ((l.take i ++ List.replicate (x :: t).length bz).length : Int)) = true := decide_eq_true (by simp only [List.length_append, hti, List.length_replicate, List.length_cons]; omega)
      have hs : (l.take i ++ List.replicate (x :: t).length bz).set i x = l.take (i + 1) ++ List.replicate t.length bz := by
        rw [List.length_cons, List.replicate_succ, q7r hd]
        have := set_mid (l.take i) bz x (List.replicate t.length bz)
        rw [hti] at this
        rw [this]; simp
      refine Al2.succ ((ih (i + 1) d2).mono fun k k1 e => ?_)
      simp only [q1o.L3_eq, c1, c2, c3, w64, c4, d1, hlt, Bool.and_self, q08]
      rw [hs, e]
  refine (key l 0 rfl).diag.mono fun k e => ?_
  rw [q1o.f_eq, show (16 : Int) = ((16 : Nat) : Int) from rfl, qr6 _ _ (by simp only [q0u]; omega), q08, qg6]
  simpa using e
theorem qlb (d : Delta) (h : smD d) : Al fun k => q4c.f k d = some d :=
  (((qib d.1 h.1.1).and (qea d.2.1 h.2.1.1)).and (qe9 d.2.2.2 h.2.2.1)).mono fun k ⟨⟨e1, e2⟩, e3⟩ => by
    simp only [q4c.f_eq, e1, e2, e3, Option.bind_some]
theorem qjb (b : Book) (m : Nat) (h1 : b.1.length ≤ 1000000000) (h2 : b.2.length ≤ 1000000000) (hm : m ≤ 1000000000) : Al fun k => q3q.f k (qss b m) (m : Int) = some ((m + 5 * b.1.length + 2 * b.2.length : Nat) : Int) :=
  ((q8w b.1.length [] m (by simp; omega) (by omega)).diag.and (q8v b.2.length [] (m + 5 * b.1.length) (by simp; omega) (by omega)).diag).mono fun k ⟨e1, e2⟩ => by
    simp only [List.nil_append, List.length_nil] at e1 e2
    simp only [q3q.f_eq, q14.f_eq, q15.f_eq, qss]
    rw [show (0 : Int) = ((0 : Nat) : Int) from rfl, e1, Option.bind_some, decide_eq_false (by omega), q0d, e2, Option.bind_some, decide_eq_false (by omega), q0d]
end Go.Proofs.YtnjdoinlnbjedaaGreatDoor.Rf
end

section
namespace Go.Proofs.YtnjdoinlnbjedaaGreatDoor.Rf
open Go Go.RowKit
set_option linter.unusedVariables false
set_option linter.unusedSimpArgs false
theorem qsj {d : Delta} (h : q73 (.st (.pair (.row .str) (.pair (.row (.st (.pair .str .str))) (.pair .bool (.row (.st (.pair .str (.pair .bool (.pair .str (.pair .str .str)))))))))) d) : bgD d :=
  ⟨h.1, ⟨h.2.1.1, fun e he => qqa (h.2.1.2 e he)⟩, h.2.2.2.1, fun a ha => qq9 (h.2.2.2.2 a ha)⟩
theorem qlc {b : Book} {d : Delta} (hb : b.1.length ≤ 1048576 ∧ b.2.length ≤ 1048576) : (q4q b d).1.1.length ≤ 1048576 ∧ (q4q b d).1.2.length ≤ 1048576 := by
  unfold q4q
  split
  · rename_i h
    simp only [Bool.and_eq_true] at h
    split
    · rename_i h2
      simp only [Bool.and_eq_true] at h2
      have := q88 h2.2
      simp only
      omega
    · exact hb
  · simp
end Go.Proofs.YtnjdoinlnbjedaaGreatDoor.Rf
end

section
namespace Go.Proofs.YtnjdoinlnbjedaaGreatDoor.Rf
open Go Go.RowKit
set_option linter.unusedVariables false
set_option linter.unusedSimpArgs false
abbrev TyDl : Ty := .st (.pair (.row .str) (.pair (.row (.st (.pair .str .str))) (.pair .bool (.row (.st (.pair .str (.pair .bool (.pair .str (.pair .str .str)))))))))
abbrev qth : Ty := .st (.pair (.int .i64) (.pair TyDl (.pair .str .str)))
def bgR (r : Release) : Prop := bgD r.2.1 ∧ Big r.2.2.1.size ∧ Big r.2.2.2.size
theorem qsk {r : Release} (h : q73 qth r) : bgR r := ⟨qsj h.2.1, h.2.2.1, h.2.2.2⟩
theorem qqb {n : Int} (h : q73 (.int .i64) n) : -9223372036854775808 ≤ n ∧ n ≤ 9223372036854775807 := by
  have h' : (Lit.int .i64 n).wf = true := h
  simp only [Lit.wf, IntKind.min, IntKind.max, Bool.and_eq_true] at h'
  have h1 := of_decide_eq_true h'.1
  have h2 := of_decide_eq_true h'.2
  rw [if_pos (show IntKind.i64.signed = true from rfl)] at h1 h2
  exact ⟨h1, h2⟩
def qnw (r : Release) : Nat := qif r.2.1 + (r.2.2.1.size + r.2.2.2.size)
theorem qic (r : Release) (n : Int) (h0 : 0 ≤ n) (h1 : n ≤ 1048576) (hr : bgR r) : Al fun k => q3k.f k r n = some (q7o n (qnw r)) := by
  refine (qla r.2.1 n h0 h1 hr.1).mono fun k e => ?_
  rw [q3k.f_eq, e, Option.bind_some, q4v _ _ h0]
  by_cases c1 : n < qif r.2.1
  · rw [decide_eq_true c1, q08, qnw, q5j _ _ _ c1]
  rw [decide_eq_false c1, q0d, show q7o n (qif r.2.1) = n - qif r.2.1 from if_pos (by omega)]
  obtain ⟨s1, s2⟩ := q62 (n - qif r.2.1) r.2.2.1.size (by omega) (by omega) hr.2.1
  rw [s1, s2]
  by_cases c2 : n - qif r.2.1 < r.2.2.1.size
  · rw [decide_eq_true c2, q08]
    exact congrArg some (if_neg (by unfold qnw; omega)).symm
  rw [decide_eq_false c2, q0d]
  obtain ⟨s3, s4⟩ := q62 (n - qif r.2.1 - r.2.2.1.size) r.2.2.2.size (by omega) (by omega) hr.2.2
  rw [s3, s4]
  by_cases c3 : n - qif r.2.1 - r.2.2.1.size < r.2.2.2.size
  · rw [decide_eq_true c3, q08]
    exact congrArg some (if_neg (by unfold qnw; omega)).symm
  rw [decide_eq_false c3, q0d, q7o, if_pos (by unfold qnw; omega)]
  refine congrArg some ?_
  unfold qnw
  omega
theorem qsl {r : Release} (h : qnw r ≤ 1048576) : smR r := by
  unfold qnw at h
  exact ⟨qsi (by omega), by omega, by omega⟩
theorem qid (r : Release) (h : smD r.2.1) : Al fun k => q33.f k r = some r := (qlb r.2.1 h).mono fun k e => by rw [q33.f_eq, e, Option.bind_some]
theorem qsm {d : Delta} (h : qif d ≤ 1048576) : lnD d := by unfold qif qie qhy qhz at h; unfold lnD; omega
end Go.Proofs.YtnjdoinlnbjedaaGreatDoor.Rf
end

section
/- The law FnExactReleaseDo is true. -/
namespace Go.Proofs.YtnjdoinlnbjedaaGreatDoor.Rf
open Go Go.RowKit
set_option linter.unusedVariables false
set_option linter.unusedSimpArgs false
theorem qpl {key : ByteArray} {n : Int} {b : Book} {r : Release} (hb : b.1.length ≤ 1048576 ∧ b.2.length ≤ 1048576) : (q5f key n b r).1.1.length ≤ 1048576 ∧ (q5f key n b r).1.2.length ≤ 1048576 := by
  unfold q5f
  split
  · split
    · exact qlc hb
    · exact hb
  · simp
theorem q9k (key : ByteArray) (n : Int) (b : Book) (r : Release) (hk : q73 .str key) (hn : q73 (.int .i64) n) (hb : q73 qta b) (hr : q73 qth r) : ∃ k, q03.f k key n b r = some true := by
  by_cases hk1 : key.size ≤ 1048576
  case neg => exact ⟨0, by rw [q03.f_eq, decide_eq_true (by omega), q08]⟩
  have hK : decide ((key.size : Int) > 1048576) = false := decide_eq_false (by omega)
  have s1 := qe8 b 1048576 (by omega) (by omega) (qnj hb)
  by_cases h1 : qgb b ≤ 1048576
  case neg =>
    exact (s1.mono fun k e => by
      rw [q03.f_eq, hK, q0d, e, Option.bind_some, q4v _ _ (by omega), decide_eq_true (by omega), q08]).get
  have e1 : q7o 1048576 (qgb b) = 1048576 - qgb b := if_pos (by omega)
  have s2 := qic r (1048576 - qgb b) (by omega) (by omega) (qsk hr)
  by_cases h2 : qgb b + qnw r ≤ 1048576
  case neg =>
    exact ((s1.and s2).mono fun k ⟨e, e2⟩ => by
      rw [q03.f_eq, hK, q0d, e, Option.bind_some, q4v _ _ (by omega), decide_eq_false (by omega), q0d, e1, e2, Option.bind_some, q4v _ _ (by omega), decide_eq_true (by omega), q08]).get
  have mb := qni (b := b) (by omega)
  have mr := qsl (r := r) (by omega)
  have lb := qnk (b := b) (by omega)
  have lr : lnD r.2.1 := qsm (by unfold qnw at h2; omega)
  have lx := qpl (key := key) (n := n) (r := r) lb
  have hI := q8b key n b r (by omega) (qqb hn) mb mr
  have hS := q8c key n b r (by omega) (qqb hn) mb mr
  have hE := q8r (q5f key n b r).1 (by unfold Sm; omega) (by unfold Sm; omega)
  have hM := q8u (q5f key n b r).1 1 (by omega) (by omega) (by omega)
  have hH := qjb (q5f key n b r).1 1 (by omega) (by omega) (by omega)
  have tB := qeb b mb
  have tR := qid r mr.1
  have j34 : Al fun k => q03.J34 k (q5f key n b r).1 (q5f key n b r).2 (qss (q5f key n b r).1 1) ((1 + 5 * (q5f key n b r).1.1.length + 2 * (q5f key n b r).1.2.length : Nat) : Int) (q5f key n b r).1 (q5f key n b r).2 = some true :=
    Al.succ ((hE.and hH).mono fun k ⟨e, e2⟩ => by
      rw [show ((1 : Nat) : Int) = 1 from rfl] at e2
      rw [q03.J34_eq, e, Option.bind_some, Bool.not_true, q0d, beq_self_eq_true, Bool.not_true, q0d, e2, Option.bind_some, decide_eq_false (by omega), q0d, bne_self_eq_false, q0d])
  have j25 : Al fun k => q03.J25 k key n b r (q5f key n b r).1 (q5f key n b r).2 (q5f key n b r).1 = some true :=
    Al.succ ((((hM.and hH).and (tB.and tR)).and (hI.and j34)).mono fun k ⟨⟨⟨e, e2⟩, e3, e4⟩, e5, e6⟩ => by
      rw [show ((1 : Nat) : Int) = 1 from rfl] at e e2
      rw [q03.J25_eq, e, Option.bind_some]
      dsimp only
      rw [e2, Option.bind_some, decide_eq_false (by omega), q0d, bne_self_eq_false, q0d, e3, Option.bind_some, e4, Option.bind_some, e5, Option.bind_some, e6])
  have j16 : Al fun k => q03.J16 k key n b r (q5f key n b r).1 (q5f key n b r).2 b r (q5f key n b r).1 (q5f key n b r).2 = some true :=
    Al.succ (((((tB.and tR).and ((q8r b (by unfold Sm; omega) (by unfold Sm; omega)).and (qa4 r lr))).and
      ((q8u b 1 (by omega) (by omega) (by omega)).and (qa5 r (1 + 5 * b.1.length + 2 * b.2.length) lr (by omega)))).and (hE.and j25)).mono fun k ⟨⟨⟨⟨e3, e4⟩, e5, e6⟩, e7, e8⟩, e9, e10⟩ => by
      rw [show ((1 : Nat) : Int) = 1 from rfl] at e7
      rw [q03.J16_eq, e3, Option.bind_some, e5, Option.bind_some, Bool.not_true, q0d, e4, Option.bind_some, e6, Option.bind_some, Bool.not_true, q0d, e7, Option.bind_some]
      dsimp only
      rw [e8, Option.bind_some, decide_eq_false (by omega), q0d, e9, Option.bind_some, Bool.not_true, q0d, beq_self_eq_true, Bool.not_true, q0d, e10])
  have j11 : Al fun k => q03.J11 k key n b r (q5f key n b r).1 (q5f key n b r).2 = some true :=
    Al.succ ((((tB.and tR).and hI).and (hE.and j16)).mono fun k ⟨⟨⟨e3, e4⟩, e5⟩, e9, e10⟩ => by
      rw [q03.J11_eq, e3, Option.bind_some, e4, Option.bind_some, e5, Option.bind_some, e9, Option.bind_some, Bool.not_true, q0d, beq_self_eq_true, Bool.not_true, q0d, e10])
  refine ((((s1.and s2).and (tB.and tR)).and (hS.and j11)).mono fun k ⟨⟨⟨z1, z2⟩, e3, e4⟩, e5, e6⟩ => ?_).get
  rw [q03.f_eq, hK, q0d, z1, Option.bind_some, q4v _ _ (by omega), decide_eq_false (by omega), q0d, e1, z2, Option.bind_some, q4v _ _ (by omega), decide_eq_false (by omega), q0d, e3, Option.bind_some, e4, Option.bind_some, e5, Option.bind_some, e6]
end Go.Proofs.YtnjdoinlnbjedaaGreatDoor.Rf
end

section
/- 'FnExactReleaseDo': for every input it returns true and its arguments read as before. Conditions: those of the given row alone (the listed package variables as the program's text lays them). -/
namespace Go.Proofs.YtnjdoinlnbjedaaGreatDoor.fnExactReleaseDo
open Go.ChangeShapes Go.WideShapes Go.ChangeAt Go.RowKit
open Go.Proofs.YtnjdoinlnbjedaaGreatDoor.Rf Go.Proofs.YtnjdoinlnbjedaaGreatDoor.Frame
set_option linter.unusedVariables false
theorem own : ownKnob Tryz.prog.godebug = none := by kernel_rfl
theorem laidOut : laidOutB Tryz.prog = true := by kernel_rfl
theorem qed : ∀ n ∈ (["loop.example/medlar/impl.shaStep"] : List String), ∀ g t, Tryz.prog.globalNamed n = some g → (Tryz.prog.globals[g]?).map (·.type) = some t → Tryz.prog.readableRec t = true ∧ t < Tryz.prog.types.size := by
  intro n hn g t hg ht
  simp only [List.mem_cons, List.not_mem_nil, or_false] at hn
  subst hn
  · obtain rfl := Option.some.inj ((show Tryz.prog.globalNamed "loop.example/medlar/impl.shaStep" = some 0 by kernel_rfl).symm.trans hg)
    obtain rfl := Option.some.inj ((show (Tryz.prog.globals[0]?).map (·.type) = some 138 by kernel_rfl).symm.trans ht)
    exact ⟨by kernel_rfl, of_decide_eq_true (by kernel_rfl)⟩
set_option maxRecDepth 100000 in
theorem contract (H : Type) (enc : TypeId × Value → H) (W : World) (base : Nat) (args : Array Value) (ds gs : List (DataW H)) (before : List MemPlace)
    (hval0 : ∀ (j : Nat) t v, Tryz.f6.params[j]? = some t → args[j]? = some v → Value.okWide Tryz.prog W .any base t v)
    (hW : DataW.Whole enc Tryz.prog Tryz.f6.params.toList Rows.fnExactReleaseDoSpec.vars false W args.toList ds gs before)
    (hsz0 : (DataW.weightsEach Tryz.prog (Tryz.f6.params.toList ++ (OpenSpec.ofChange Rows.fnExactReleaseDoSpec).bare.plain.varTypes Tryz.prog) (ds ++ gs)).all (· ≤ reachBytes) = true)
    (hL : laidMetH Tryz.prog Rows.fnExactReleaseDoRow.laid W) (hsh : W.ShapedOpen Tryz.prog) :
    Calls Tryz.prog 6 args W fun e W' => ∃ v, e = .returned v ∧ Rows.fnExactReleaseDoSpec.post enc Tryz.prog Tryz.f6 false true false false W args v W' := by
  have hGm : ∃ x : Int, W.cell? ⟨2, 0, none⟩ = some (.int .i64 x) := Go.Proofs.cell_of_shapedOpen_int (zero := #[.int .i64 0]) (t := 3) hsh (of_decide_eq_true (by kernel_rfl)) (by kernel_rfl) rfl (by kernel_rfl) (by kernel_rfl) Tryz.underlying3
  have hGp : Lib.TabIs Tryz.prog W "internal/strconv.uint64pow10" .u64 Lib.pow10Tab := q5d (show Tryz.prog.globalNamed "internal/strconv.uint64pow10" = some 1 by kernel_rfl) (show (Tryz.prog.globals[1]?).map (·.type) = some 198 by kernel_rfl) Tryz.underlying198 Tryz.underlying137 (by kernel_rfl) (by kernel_rfl) hL (by rw [show Lib.tabData .u64 Lib.pow10Tab = Rows.laid_internal_strconv_uint64pow10 from by kernel_rfl]; simp [Rows.fnExactReleaseDoRow])
  have hGs : Lib.TabIs Tryz.prog W "loop.example/medlar/impl.shaStep" .u32 q6i := q5d (show Tryz.prog.globalNamed "loop.example/medlar/impl.shaStep" = some 0 by kernel_rfl) (show (Tryz.prog.globals[0]?).map (·.type) = some 138 by kernel_rfl) Tryz.underlying138 Tryz.underlying135 (by kernel_rfl) (by kernel_rfl) hL (by rw [show Lib.tabData .u32 q6i = Rows.laid_loop_example_medlar_impl_shaStep from by kernel_rfl]; simp [Rows.fnExactReleaseDoRow])
  have hJ : Jp.J W := ⟨hGm, hGp, hGs⟩
  clear hsh hL
  have hsz := hsz0
  have hval := hval0
  have hW' := hW
  obtain ⟨p, q, hA0, hV, rfl, hfz, hnd⟩ := hW
  have hA : DataW.TrodAll enc Tryz.prog W 0 (fun _ => true) true Tryz.f6.params.toList args.toList ds p := hA0
  rw [Tryz.params6] at hA hval
  obtain ⟨v0, vs0, d0, ds0, p0, q0, hargs, rfl, rfl, h0, r0⟩ := trodAll_cons hA
  obtain ⟨v1, vs1, d1, ds1, p1, q1, rfl, rfl, rfl, h1, r1⟩ := trodAll_cons r0
  obtain ⟨v2, vs2, d2, ds2, p2, q2, rfl, rfl, rfl, h2, r2⟩ := trodAll_cons r1
  obtain ⟨v3, vs3, d3, ds3, p3, q3, rfl, rfl, rfl, h3, r3⟩ := trodAll_cons r2
  obtain ⟨rfl, rfl, rfl⟩ := trodAll_nil r3
  obtain rfl : args = #[v0, v1, v2, v3] := by cases args; simp_all
  have lt0 : ∀ x ∈ p0, x.block < W.heap.size := by obtain ⟨m, hm⟩ := h0; exact DataW.trod_lt m _ _ _ hm
  obtain ⟨x0, o0, G0⟩ := q6t (τ := .str) (show q57 Tryz.prog .str (.inl 9) = true by kernel_rfl) (hval 0 9 v0 rfl rfl) h0
  have lt1 : ∀ x ∈ p1, x.block < W.heap.size := by obtain ⟨m, hm⟩ := h1; exact DataW.trod_lt m _ _ _ hm
  obtain ⟨x1, o1, G1⟩ := q6t (τ := (.int .i64)) (show q57 Tryz.prog (.int .i64) (.inl 3) = true by kernel_rfl) (hval 1 3 v1 rfl rfl) h1
  have lt2 : ∀ x ∈ p2, x.block < W.heap.size := by obtain ⟨m, hm⟩ := h2; exact DataW.trod_lt m _ _ _ hm
  obtain ⟨x2, o2, G2⟩ := q6t (τ := t38) (show q57 Tryz.prog t38 (.inl 39) = true by kernel_rfl) (hval 2 39 v2 rfl rfl) h2
  have lt3 : ∀ x ∈ p3, x.block < W.heap.size := by obtain ⟨m, hm⟩ := h3; exact DataW.trod_lt m _ _ _ hm
  obtain ⟨x3, o3, G3⟩ := q6t (τ := t28) (show q57 Tryz.prog t28 (.inl 61) = true by kernel_rfl) (hval 3 61 v3 rfl rfl) h3
  obtain ⟨gv0, gw0, qv0, rfl, hv0⟩ := q6u hV
  obtain ⟨rfl, _⟩ := trodVars_none hv0
  clear hA0 hval0 hsz0
  obtain ⟨k, hk⟩ := q9k x0 x1 x2 x3 G0 G1 G2 G3
  refine (row_of (q03.q k).1 rfl (x := (x0, x1, x2, x3)) (r := true) hk rfl (qsq hJ) hJ rfl ?_).mono fun e W' ⟨he, bel⟩ => ?_
  · intro i p s hp hs
    match i, hp, hs with
    | 0, _, hs => obtain rfl := Option.some.inj (show some (⟨.str, x0⟩ : Sv) = some s from hs); exact o0
    | 1, _, hs => obtain rfl := Option.some.inj (show some (⟨(.int .i64), x1⟩ : Sv) = some s from hs); exact o1
    | 2, _, hs => obtain rfl := Option.some.inj (show some (⟨t38, x2⟩ : Sv) = some s from hs); exact o2
    | 3, _, hs => obtain rfl := Option.some.inj (show some (⟨t28, x3⟩ : Sv) = some s from hs); exact o3
    | i + 4, hp, _ => simp at hp
  subst he
  obtain ⟨pv, hpv⟩ := q60 laidOut bel _ _ _ hV qed
  exact ⟨_, rfl, _, _, _, [], _, pv, hW', trodAll_mk1 (shut_bool Tryz.underlying4 _), (trodAll_cons_mk (Below.trod laidOut (by kernel_rfl) (of_decide_eq_true (by kernel_rfl)) h0 bel lt0) (trodAll_cons_mk (Below.trod laidOut (by kernel_rfl) (of_decide_eq_true (by kernel_rfl)) h1 bel lt1) (trodAll_cons_mk (Below.trod laidOut (by kernel_rfl) (of_decide_eq_true (by kernel_rfl)) h2 bel lt2) (trodAll_cons_mk (Below.trod laidOut (by kernel_rfl) (of_decide_eq_true (by kernel_rfl)) h3 bel lt3) trodAll_mk0)))), hpv, bel.frame _, fun h => by cases h⟩
noncomputable def q56 (os : Os) : World := { World.holding Tryz.prog os ⟨#[], #[], []⟩ with heap := (((((((World.holding Tryz.prog os ⟨#[], #[], []⟩).heap.modify 5 fun | .cells _ t frozen => .cells #[.int .u8 0, .int .u8 1, .int .u8 28, .int .u8 2, .int .u8 29, .int .u8 14, .int .u8 24, .int .u8 3, .int .u8 30, .int .u8 22, .int .u8 20, .int .u8 15, .int .u8 25, .int .u8 17, .int .u8 4, .int .u8 8, .int .u8 31, .int .u8 27, .int .u8 13, .int .u8 23, .int .u8 21, .int .u8 19, .int .u8 16, .int .u8 7, .int .u8 26, .int .u8 12, .int .u8 18, .int .u8 6, .int .u8 11, .int .u8 5, .int .u8 10, .int .u8 9] t frozen | o => o).modify 6 fun | .cells _ t frozen => .cells #[.int .u8 0, .int .u8 1, .int .u8 56, .int .u8 2, .int .u8 57, .int .u8 49, .int .u8 28, .int .u8 3, .int .u8 61, .int .u8 58, .int .u8 42, .int .u8 50, .int .u8 38, .int .u8 29, .int .u8 17, .int .u8 4, .int .u8 62, .int .u8 47, .int .u8 59, .int .u8 36, .int .u8 45, .int .u8 43, .int .u8 51, .int .u8 22, .int .u8 53, .int .u8 39, .int .u8 33, .int .u8 30, .int .u8 24, .int .u8 18, .int .u8 12, .int .u8 5, .int .u8 63, .int .u8 55, .int .u8 48, .int .u8 27, .int .u8 60, .int .u8 41, .int .u8 37, .int .u8 16, .int .u8 46, .int .u8 35, .int .u8 44, .int .u8 21, .int .u8 52, .int .u8 32, .int .u8 23, .int .u8 11, .int .u8 54, .int .u8 26, .int .u8 40, .int .u8 15, .int .u8 34, .int .u8 20, .int .u8 31, .int .u8 10, .int .u8 25, .int .u8 14, .int .u8 19, .int .u8 9, .int .u8 13, .int .u8 8, .int .u8 7, .int .u8 6] t frozen | o => o).modify 1 fun | .cells _ t frozen => .cells #[.int .u64 1, .int .u64 10, .int .u64 100, .int .u64 1000, .int .u64 10000, .int .u64 100000, .int .u64 1000000, .int .u64 10000000, .int .u64 100000000, .int .u64 1000000000, .int .u64 10000000000, .int .u64 100000000000, .int .u64 1000000000000, .int .u64 10000000000000, .int .u64 100000000000000, .int .u64 1000000000000000, .int .u64 10000000000000000, .int .u64 100000000000000000, .int .u64 1000000000000000000, .int .u64 10000000000000000000] t frozen | o => o).modify 4 fun | .cells _ t frozen => .cells #[.int .u8 128, .int .u8 191, .int .u8 160, .int .u8 191, .int .u8 128, .int .u8 159, .int .u8 144, .int .u8 191, .int .u8 128, .int .u8 143, .int .u8 0, .int .u8 0, .int .u8 0, .int .u8 0, .int .u8 0, .int .u8 0, .int .u8 0, .int .u8 0, .int .u8 0, .int .u8 0, .int .u8 0, .int .u8 0, .int .u8 0, .int .u8 0, .int .u8 0, .int .u8 0, .int .u8 0, .int .u8 0, .int .u8 0, .int .u8 0, .int .u8 0, .int .u8 0] t frozen | o => o).modify 0 fun | .cells _ t frozen => .cells #[.int .u32 1116352408, .int .u32 1899447441, .int .u32 3049323471, .int .u32 3921009573, .int .u32 961987163, .int .u32 1508970993, .int .u32 2453635748, .int .u32 2870763221, .int .u32 3624381080, .int .u32 310598401, .int .u32 607225278, .int .u32 1426881987, .int .u32 1925078388, .int .u32 2162078206, .int .u32 2614888103, .int .u32 3248222580, .int .u32 3835390401, .int .u32 4022224774, .int .u32 264347078, .int .u32 604807628, .int .u32 770255983, .int .u32 1249150122, .int .u32 1555081692, .int .u32 1996064986, .int .u32 2554220882, .int .u32 2821834349, .int .u32 2952996808, .int .u32 3210313671, .int .u32 3336571891, .int .u32 3584528711, .int .u32 113926993, .int .u32 338241895, .int .u32 666307205, .int .u32 773529912, .int .u32 1294757372, .int .u32 1396182291, .int .u32 1695183700, .int .u32 1986661051, .int .u32 2177026350, .int .u32 2456956037, .int .u32 2730485921, .int .u32 2820302411, .int .u32 3259730800, .int .u32 3345764771, .int .u32 3516065817, .int .u32 3600352804, .int .u32 4094571909, .int .u32 275423344, .int .u32 430227734, .int .u32 506948616, .int .u32 659060556, .int .u32 883997877, .int .u32 958139571, .int .u32 1322822218, .int .u32 1537002063, .int .u32 1747873779, .int .u32 1955562222, .int .u32 2024104815, .int .u32 2227730452, .int .u32 2361852424, .int .u32 2428436474, .int .u32 2756734187, .int .u32 3204031479, .int .u32 3329325298] t frozen | o => o).modify 3 fun | .cells _ t frozen => .cells #[.int .u8 240, .int .u8 240, .int .u8 240, .int .u8 240, .int .u8 240, .int .u8 240, .int .u8 240, .int .u8 240, .int .u8 240, .int .u8 240, .int .u8 240, .int .u8 240, .int .u8 240, .int .u8 240, .int .u8 240, .int .u8 240, .int .u8 240, .int .u8 240, .int .u8 240, .int .u8 240, .int .u8 240, .int .u8 240, .int .u8 240, .int .u8 240, .int .u8 240, .int .u8 240, .int .u8 240, .int .u8 240, .int .u8 240, .int .u8 240, .int .u8 240, .int .u8 240, .int .u8 240, .int .u8 240, .int .u8 240, .int .u8 240, .int .u8 240, .int .u8 240, .int .u8 240, .int .u8 240, .int .u8 240, .int .u8 240, .int .u8 240, .int .u8 240, .int .u8 240, .int .u8 240, .int .u8 240, .int .u8 240, .int .u8 240, .int .u8 240, .int .u8 240, .int .u8 240, .int .u8 240, .int .u8 240, .int .u8 240, .int .u8 240, .int .u8 240, .int .u8 240, .int .u8 240, .int .u8 240, .int .u8 240, .int .u8 240, .int .u8 240, .int .u8 240, .int .u8 240, .int .u8 240, .int .u8 240, .int .u8 240, .int .u8 240, .int .u8 240, .int .u8 240, .int .u8 240, .int .u8 240, .int .u8 240, .int .u8 240, .int .u8 240, .int .u8 240, .int .u8 240, .int .u8 240, .int .u8 240, .int .u8 240, .int .u8 240, .int .u8 240, .int .u8 240, .int .u8 240, .int .u8 240, .int .u8 240, .int .u8 240, .int .u8 240, .int .u8 240, .int .u8 240, .int .u8 240, .int .u8 240, .int .u8 240, .int .u8 240, .int .u8 240, .int .u8 240, .int .u8 240, .int .u8 240, .int .u8 240, .int .u8 240, .int .u8 240, .int .u8 240, .int .u8 240, .int .u8 240, .int .u8 240, .int .u8 240, .int .u8 240, .int .u8 240, .int .u8 240, .int .u8 240, .int .u8 240, .int .u8 240, .int .u8 240, .int .u8 240, .int .u8 240, .int .u8 240, .int .u8 240, .int .u8 240, .int .u8 240, .int .u8 240, .int .u8 240, .int .u8 240, .int .u8 240, .int .u8 240, .int .u8 240, .int .u8 240, .int .u8 240, .int .u8 241, .int .u8 241, .int .u8 241, .int .u8 241, .int .u8 241, .int .u8 241, .int .u8 241, .int .u8 241, .int .u8 241, .int .u8 241, .int .u8 241, .int .u8 241, .int .u8 241, .int .u8 241, .int .u8 241, .int .u8 241, .int .u8 241, .int .u8 241, .int .u8 241, .int .u8 241, .int .u8 241, .int .u8 241, .int .u8 241, .int .u8 241, .int .u8 241, .int .u8 241, .int .u8 241, .int .u8 241, .int .u8 241, .int .u8 241, .int .u8 241, .int .u8 241, .int .u8 241, .int .u8 241, .int .u8 241, .int .u8 241, .int .u8 241, .int .u8 241, .int .u8 241, .int .u8 241, .int .u8 241, .int .u8 241, .int .u8 241, .int .u8 241, .int .u8 241, .int .u8 241, .int .u8 241, .int .u8 241, .int .u8 241, .int .u8 241, .int .u8 241, .int .u8 241, .int .u8 241, .int .u8 241, .int .u8 241, .int .u8 241, .int .u8 241, .int .u8 241, .int .u8 241, .int .u8 241, .int .u8 241, .int .u8 241, .int .u8 241, .int .u8 241, .int .u8 241, .int .u8 241, .int .u8 2, .int .u8 2, .int .u8 2, .int .u8 2, .int .u8 2, .int .u8 2, .int .u8 2, .int .u8 2, .int .u8 2, .int .u8 2, .int .u8 2, .int .u8 2, .int .u8 2, .int .u8 2, .int .u8 2, .int .u8 2, .int .u8 2, .int .u8 2, .int .u8 2, .int .u8 2, .int .u8 2, .int .u8 2, .int .u8 2, .int .u8 2, .int .u8 2, .int .u8 2, .int .u8 2, .int .u8 2, .int .u8 2, .int .u8 2, .int .u8 19, .int .u8 3, .int .u8 3, .int .u8 3, .int .u8 3, .int .u8 3, .int .u8 3, .int .u8 3, .int .u8 3, .int .u8 3, .int .u8 3, .int .u8 3, .int .u8 3, .int .u8 35, .int .u8 3, .int .u8 3, .int .u8 52, .int .u8 4, .int .u8 4, .int .u8 4, .int .u8 68, .int .u8 241, .int .u8 241, .int .u8 241, .int .u8 241, .int .u8 241, .int .u8 241, .int .u8 241, .int .u8 241, .int .u8 241, .int .u8 241, .int .u8 241] t frozen | o => o) }
set_option maxRecDepth 100000 in
theorem q8x (os : Os) : laidMet Tryz.prog Rows.fnExactReleaseDoRow.laid ((q56 os).forCall (fun _ _ => 0) ⟨#[], #[.string ByteArray.empty, .int .i64 0, .agg #[.slice none 0 0, .slice none 0 0], .agg #[.int .i64 0, .slice none 0 0, .slice none 0 0, .bool false, .slice none 0 0, .string ByteArray.empty, .string ByteArray.empty]], []⟩).memory :=
  laidMet_of_run' 12 (by kernel_rfl) (by kernel_rfl)
set_option maxRecDepth 100000 in
theorem reads (os : Os) {H : Type} (enc : TypeId × Value → H) : ∃ x, DataW.whole enc Tryz.prog ((q56 os).forCall (fun _ _ => 0) ⟨#[], #[.string ByteArray.empty, .int .i64 0, .agg #[.slice none 0 0, .slice none 0 0], .agg #[.int .i64 0, .slice none 0 0, .slice none 0 0, .bool false, .slice none 0 0, .string ByteArray.empty, .string ByteArray.empty]], []⟩).memory Tryz.f6.params.toList Rows.fnExactReleaseDoSpec.vars false #[(.string ByteArray.empty : Value), (.int .i64 0 : Value), (.agg #[.slice none 0 0, .slice none 0 0] : Value), (.agg #[.int .i64 0, .slice none 0 0, .slice none 0 0, .bool false, .slice none 0 0, .string ByteArray.empty, .string ByteArray.empty] : Value)].toList 12 = some x :=
  Option.isSome_iff_exists.1 (by kernel_rfl)
set_option maxRecDepth 100000 in
theorem lifted (os : Os) (started : os.Started) (H : Type) (enc : TypeId × Value → H) (F : Stop.Interp) :
    ReturnsInHanded {} Tryz.checked os 6 .any ((OpenSpec.ofChange Rows.fnExactReleaseDoSpec).preRow enc Tryz.prog Tryz.f6 Rows.fnExactReleaseDoRow.domain false Rows.fnExactReleaseDoRow.laid) (((OpenSpec.ofChange Rows.fnExactReleaseDoSpec).at F).post enc Tryz.prog Tryz.f6 false true false false) := by
  obtain ⟨x, hx⟩ := reads os enc
  refine returnsInHanded_of_row (C := Tryz.checked) (s := OpenSpec.ofChange Rows.fnExactReleaseDoSpec) own started (by kernel_rfl) Tryz.func6
    (witness_row_at (enc := enc) (C := Tryz.checked) false (q56 os) #[.string ByteArray.empty, .int .i64 0, .agg #[.slice none 0 0, .slice none 0 0], .agg #[.int .i64 0, .slice none 0 0, .slice none 0 0, .bool false, .slice none 0 0, .string ByteArray.empty, .string ByteArray.empty]] rfl (by kernel_rfl) (by kernel_rfl) (by kernel_rfl)
      (OpenSpec.preRow_of_cond 12 (x := x) hx (by kernel_rfl) (fun k hk => by cases hk) (by kernel_rfl) (q8x os))) ?_
  intro W base args ds gs before hval hW _ _ hsz hL hsh _
  exact contract H enc W base args ds gs before hval hW hsz hL hsh
theorem said : Rows.FnExactReleaseDoSaid :=
  OpenClaim.holds_of_cond 6 Tryz.f6 rfl rfl rfl rfl rfl rfl rfl ⟨rfl, rfl, rfl, rfl, rfl⟩ rfl rfl rfl rfl rfl (by kernel_rfl) Tryz.func6 (by kernel_rfl)
    (of_decide_eq_true (by kernel_rfl)) (by unfold Func.isWrapper; first | (rw [if_pos (by decide +kernel)]; kernel_rfl) | (rw [if_neg (by decide +kernel)]; exact ⟨rfl, rfl⟩))
    (fun os started H enc _ F => by rw [OpenClaim.pre_eq_preRow]; exact lifted os started H enc F)
theorem plain (f : FuncId) (fn : Func) (hf : Tryz.pinned.checked.prog.funcNamed "loop.example/medlar/laws.FnExactReleaseDo" = some f) (hfn : Tryz.pinned.checked.prog.funcs[f]? = some fn) :
    false = Tryz.pinned.checked.prog.looks [] ∧ ∀ (j : Nat) t, fn.params[j]? = some t → Tryz.pinned.checked.prog.wantsStandIn t = false := by
  obtain rfl : f = 6 := Option.some.inj ((show Tryz.prog.funcNamed "loop.example/medlar/laws.FnExactReleaseDo" = some 6 by kernel_rfl).symm.trans hf) |>.symm
  obtain rfl : fn = Tryz.f6 := (Option.some.inj (Tryz.func6.symm.trans hfn)).symm
  refine ⟨by kernel_rfl, fun j t ht => ?_⟩
  rw [Tryz.params6] at ht
  have hm := Array.mem_of_getElem? ht
  simp only [List.mem_toArray, List.mem_cons, List.not_mem_nil, or_false] at hm
  rcases hm with rfl | rfl | rfl | rfl
  · exact (show Tryz.prog.wantsStandIn 9 = false by kernel_rfl)
  · exact (show Tryz.prog.wantsStandIn 3 = false by kernel_rfl)
  · exact (show Tryz.prog.wantsStandIn 39 = false by kernel_rfl)
  · exact (show Tryz.prog.wantsStandIn 61 = false by kernel_rfl)
theorem card : Rows.FnExactReleaseDoCardSaid :=
  Claim7.holds_tied_plain_at .later [] _ _ _ _ said (fun _ h => by cases h) (by kernel_rfl) (fun _ h => by cases h) fnExactReleaseDo_row_tie rfl ⟨rfl, rfl⟩ (by kernel_rfl) rfl plain (by kernel_rfl)
end Go.Proofs.YtnjdoinlnbjedaaGreatDoor.fnExactReleaseDo
namespace Go.Proofs.YtnjdoinlnbjedaaGreatDoor
theorem fnExactReleaseDo_holds : Rows.FnExactReleaseDoCardSaid := fnExactReleaseDo.card
end Go.Proofs.YtnjdoinlnbjedaaGreatDoor
end
