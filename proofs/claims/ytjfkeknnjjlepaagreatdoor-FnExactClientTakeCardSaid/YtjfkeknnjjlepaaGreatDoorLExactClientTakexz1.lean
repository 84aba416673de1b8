import Derived.Test.YtjfkeknnjjlepaaGreatDoorE1
import Derived.Test.YtjfkeknnjjlepaaGreatDoorEz2
import Derived.Test.YtjfkeknnjjlepaaGreatDoorKz2
import Derived.Test.YtjfkeknnjjlepaaGreatDoorRows
import Derived.Test.YtjfkeknnjjlepaaGreatDoorCards
import Derived.Test.YtjfkeknnjjlepaaGreatDoorTie
import Derived.WalkKit
import Derived.ProofKit
import Derived.OpenShut
import Derived.ShutString
import Derived.ChangeOld
import Derived.Below
import Derived.Carry
import Derived.SizedLaws
import Derived.Deep.DeepHandedRow
import Derived.Lib.LaidTab
import Derived.Lay

section
namespace Go.Proofs.YtjfkeknnjjlepaaGreatDoor.Rf
open Go Go.RowKit
set_option linter.unusedVariables false
noncomputable section
def q34.C (k : Nat) : CEs := [q2p.e k, q3v.e k, q44.e k]
abbrev q34.ps : List Par := [⟨t49, .rd⟩, ⟨.str, .rd⟩]
abbrev q34.rs : List Res := [⟨t49, (.pr .ro (.pr .ro (.pr .ro (.pr (.pr (.own .ro) (.own .ro)) .ro)))), false⟩, ⟨(.int .i64), .ro, false⟩]
def q34.F := q4v E q34.C [] Tryz.f51 q34.ps q34.rs
def q34.f (k : Nat) (x0 : q0l) (x1 : ByteArray) : Option (q0l × Int) := q34.F k (x0, x1)
theorem q34.f_eq (k : Nat) (x0 : q0l) (x1 : ByteArray) : q34.f k x0 x1 = (q2p.f k x0).bind fun (r0 : Bool) => ifb (!r0) (some ((bz, false, (0 : Int), (([] : List Aff), ([] : List En)), bz), (1 : Int))) (ifb (!x0.2.1) ((q3v.f k x0).bind fun (r1 : q0l) => some (r1, (7 : Int))) ((q44.f k x0 x1).bind fun (r2 : q0l × Int) => some (r2.1, r2.2))) := by kernel_rfl
abbrev q34.e (k : Nat) : FuncId × CE := (51, ⟨q34.ps, q34.rs, q34.F k⟩)
theorem q34.q (k : Nat) : Qs (q34.e k) := qq (C := q34.C) (fun k => .c (q2p.q k) <| .c (q3v.q k) <| .c (q44.q k) <| .nil) k
def q02.C (k : Nat) : CEs := [q33.e k, q1w.e k, q2c.e k, q2k.e k, q2l.e k, q34.e k, q27.e k]
abbrev q02.ps : List Par := [⟨t49, .rd⟩, ⟨.str, .rd⟩]
abbrev q02.rs : List Res := [⟨.bool, .ro, false⟩]
def q02.H : q4u := [(8, [(1, .ro), (2, .ro), (6, (.pr .ro (.pr .ro (.pr .ro (.pr (.pr (.own .ro) (.own .ro)) .ro))))), (7, .ro)]), (14, [(1, .ro), (2, .ro), (6, (.pr .ro (.pr .ro (.pr .ro (.pr (.pr (.own .ro) (.own .ro)) .ro))))), (7, .ro), (8, (.pr .ro (.pr .ro (.pr .ro (.pr (.pr (.own .ro) (.own .ro)) .ro))))), (9, (.pr .ro (.pr .ro (.pr .ro (.pr (.pr (.own .ro) (.own .ro)) .ro))))), (10, .ro)]), (20, [(1, .ro), (2, .ro), (6, (.pr .ro (.pr .ro (.pr .ro (.pr (.pr (.own .ro) (.own .ro)) .ro))))), (7, .ro), (9, (.pr .ro (.pr .ro (.pr .ro (.pr (.pr (.own .ro) (.own .ro)) .ro))))), (12, .ro)]), (29, [(9, (.pr .ro (.pr .ro (.pr .ro (.pr (.pr (.own .ro) (.own .ro)) .ro))))), (12, .ro)])]
def q02.F := q4v E q02.C q02.H Tryz.f10 q02.ps q02.rs
def q02.J8 (k : Nat) (x1 : ByteArray) (x2 : q0l) (x6 : q0l) (x7 : Int) : Option (Bool) := atJ E q02.C q02.H Tryz.f10 q02.ps q02.rs [true, true, true, true, true, true] 0 [] k (sh 104 [(1, .d .str x1 .ro), (2, .box t49 x2 .ro none), (6, .box t49 x6 (.pr .ro (.pr .ro (.pr .ro (.pr (.pr (.own .ro) (.own .ro)) .ro)))) none), (7, .d (.int .i64) x7 .ro)])
def q02.J14 (k : Nat) (x1 : ByteArray) (x2 : q0l) (x6 : q0l) (x7 : Int) (x8 : q0l) (x9 : q0l) (x10 : Int) : Option (Bool) := atJ E q02.C q02.H Tryz.f10 q02.ps q02.rs [true, true, true, true, true, true, true, true, true, true] 0 [0] k (sh 104 [(1, .d .str x1 .ro), (2, .box t49 x2 .ro none), (6, .box t49 x6 (.pr .ro (.pr .ro (.pr .ro (.pr (.pr (.own .ro) (.own .ro)) .ro)))) none), (7, .d (.int .i64) x7 .ro), (8, .box t49 x8 (.pr .ro (.pr .ro (.pr .ro (.pr (.pr (.own .ro) (.own .ro)) .ro)))) none), (9, .box t49 x9 (.pr .ro (.pr .ro (.pr .ro (.pr (.pr (.own .ro) (.own .ro)) .ro)))) none), (10, .d (.int .i64) x10 .ro)])
def q02.J20 (k : Nat) (x1 : ByteArray) (x2 : q0l) (x6 : q0l) (x7 : Int) (x9 : q0l) (x12 : Int) : Option (Bool) := atJ E q02.C q02.H Tryz.f10 q02.ps q02.rs [true, true, true, true, true, true, true, true, true, true, true, true, true, true, true] 0 [0, 0] k (sh 104 [(1, .d .str x1 .ro), (2, .box t49 x2 .ro none), (6, .box t49 x6 (.pr .ro (.pr .ro (.pr .ro (.pr (.pr (.own .ro) (.own .ro)) .ro)))) none), (7, .d (.int .i64) x7 .ro), (9, .box t49 x9 (.pr .ro (.pr .ro (.pr .ro (.pr (.pr (.own .ro) (.own .ro)) .ro)))) none), (12, .d (.int .i64) x12 .ro)])
def q02.J29 (k : Nat) (x9 : q0l) (x12 : Int) : Option (Bool) := atJ E q02.C q02.H Tryz.f10 q02.ps q02.rs [true, true, true, true, true, true, true, true, true, true, true, true, true, true, true, true, true, true, true, true, true] 0 [0, 0, 0] k (sh 104 [(9, .box t49 x9 (.pr .ro (.pr .ro (.pr .ro (.pr (.pr (.own .ro) (.own .ro)) .ro)))) none), (12, .d (.int .i64) x12 .ro)])
def q02.f (k : Nat) (x0 : q0l) (x1 : ByteArray) : Option (Bool) := q02.F k (x0, x1)
theorem q02.f_eq (k : Nat) (x0 : q0l) (x1 : ByteArray) : q02.f k x0 x1 = ifb (decide ((x1.size : Int) > (1048576 : Int))) (some true) ((q33.f k x0 (1048576 : Int)).bind fun (r0 : Int) => ifb (decide (r0 < 0)) (some true) ((q1w.f k x0).bind fun (r1 : q0l) => (q34.f k r1 x1).bind fun (r2 : q0l × Int) => q02.J8 k x1 x0 r2.1 r2.2)) := by kernel_rfl
theorem q02.J8_eq (k : Nat) (x1 : ByteArray) (x2 : q0l) (x6 : q0l) (x7 : Int) : q02.J8 (k + 1) x1 x2 x6 x7 = (q1w.f k x2).bind fun (r3 : q0l) => (q27.f k r3 x1).bind fun (r4 : q0l × Int) => (q2c.f k r4.1 x6).bind fun (r5 : Bool) => ifb (!r5) (some false) (ifb (r4.2 != x7) (some false) ((q1w.f k x2).bind fun (r6 : q0l) => (q2c.f k r3 r6).bind fun (r7 : Bool) => ifb (!r7) (some false) (q02.J14 k x1 x2 x6 x7 r3 r4.1 r4.2))) := by kernel_rfl
theorem q02.J14_eq (k : Nat) (x1 : ByteArray) (x2 : q0l) (x6 : q0l) (x7 : Int) (x8 : q0l) (x9 : q0l) (x10 : Int) : q02.J14 (k + 1) x1 x2 x6 x7 x8 x9 x10 = (q2k.f k x8 (1 : Int)).bind fun (r8 : Int × q0l) => ifb (decide (r8.1 < 0)) (some false) ((q2c.f k x9 x6).bind fun (r9 : Bool) => ifb (!r9) (some false) (ifb (x10 != x7) (some false) ((q2k.f k x9 (1 : Int)).bind fun (r10 : Int × q0l) => q02.J20 k x1 x2 x6 x7 r10.2 r10.1))) := by kernel_rfl
theorem q02.J20_eq (k : Nat) (x1 : ByteArray) (x2 : q0l) (x6 : q0l) (x7 : Int) (x9 : q0l) (x12 : Int) : q02.J20 (k + 1) x1 x2 x6 x7 x9 x12 = (q2l.f k x9 (1 : Int)).bind fun (r11 : Int) => ifb (decide (r11 < 0)) (some false) (ifb (r11 != x12) (some false) ((q1w.f k x2).bind fun (r12 : q0l) => (q27.f k r12 x1).bind fun (r13 : q0l × Int) => (q2c.f k r13.1 x6).bind fun (r14 : Bool) => ifb (!r14) (some false) (ifb (r13.2 != x7) (some false) (q02.J29 k x9 x12)))) := by kernel_rfl
theorem q02.J29_eq (k : Nat) (x9 : q0l) (x12 : Int) : q02.J29 (k + 1) x9 x12 = (q2l.f k x9 (1 : Int)).bind fun (r15 : Int) => ifb (decide (r15 < 0)) (some false) (ifb (r15 != x12) (some false) (some true)) := by kernel_rfl
abbrev q02.e (k : Nat) : FuncId × CE := (10, ⟨q02.ps, q02.rs, q02.F k⟩)
theorem q02.q (k : Nat) : Qs (q02.e k) := qq (C := q02.C) (fun k => .c (q33.q k) <| .c (q1w.q k) <| .c (q2c.q k) <| .c (q2k.q k) <| .c (q2l.q k) <| .c (q34.q k) <| .c (q27.q k) <| .nil) k
end
end Go.Proofs.YtjfkeknnjjlepaaGreatDoor.Rf
end

section
namespace Go.Proofs.YtjfkeknnjjlepaaGreatDoor.Rf
open Go Go.RowKit
set_option linter.unusedVariables false
set_option linter.unusedSimpArgs false
theorem qcy (c : q0l) (t : ByteArray) (h : smC c) (ht : t.size ≤ 20000000) : Al fun k => q34.f k c t = some (takeC c t) := by
  have hO := q7q c h
  unfold takeC
  cases h1 : q68 c with
  | false => exact hO.mono fun k e => by rw [q34.f_eq, e, h1, Option.bind_some, Bool.not_false, q06]; rfl
  | true =>
  rw [if_pos rfl]
  cases hu : c.2.1 with
  | false => exact hO.mono fun k e => by rw [q34.f_eq, e, h1, Option.bind_some, Bool.not_true, q08, hu, Bool.not_false, q06, q8n k c h.bk, Option.bind_some, if_neg (by simp)]
  | true =>
    have hn := q9r h1
    refine (hO.and (qba c t h hu hn.1 hn.2 ht)).mono fun k ⟨e, e2⟩ => ?_
    rw [q34.f_eq, e, h1, Option.bind_some, Bool.not_true, q08, hu, Bool.not_true, q08, e2, Option.bind_some, if_pos rfl]
end Go.Proofs.YtjfkeknnjjlepaaGreatDoor.Rf
end

section
namespace Go.Proofs.YtjfkeknnjjlepaaGreatDoor.Rf
open Go Go.RowKit
set_option linter.unusedVariables false
set_option linter.unusedSimpArgs false
theorem qop {key : ByteArray} {n : Int} {b : Book} {r : Release} (h : (q89 key n b r).2 = true) : q5r (q89 key n b r).1 = true := by
  unfold q89 at h ⊢
  split at h
  · rename_i h0
    split at h
    · rename_i hx
      rw [if_pos h0, if_pos hx]
      simp only [Bool.and_eq_true, decide_eq_true_eq] at hx
      have hd := hx.2.2.1
      simp only
      unfold q5e at hd ⊢
      split at hd
      · rename_i h1
        split at hd
        · rename_i h2
          rw [if_pos h1, if_pos h2]
          simp only [Bool.and_eq_true] at h2
          exact h2.2
        · simp at hd
      · simp at hd
    · simp at h
  · simp at h
theorem qoq (c : q0l) (t : ByteArray) : (take1 c t).1.2.2.2.1 = c.2.2.2.1 ∨ q5r (take1 c t).1.2.2.2.1 = true := by
  unfold take1
  split
  · exact .inl rfl
  split
  · exact .inl rfl
  split
  · exact .inl rfl
  split
  · exact .inl rfl
  split
  · exact .inl rfl
  split
  · rename_i h; exact .inr (qop h)
  · exact .inl rfl
theorem qhj (c : q0l) (t : ByteArray) : (takeC c t).1.2.2.2.1 = c.2.2.2.1 ∨ q5r (takeC c t).1.2.2.2.1 = true := by
  unfold takeC
  split
  · split
    · exact qoq c t
    · exact .inl rfl
  · exact .inr (show q5r zB = true by decide)
theorem qa3 (c : q0l) (t : ByteArray) (hc : q7s qxn c) (ht : q7s .str t) : ∃ k, q02.f k c t = some true := by
  by_cases h0 : t.size ≤ 1048576
  case neg => exact ⟨0, by rw [q02.f_eq, decide_eq_true (show (t.size : Int) > 1048576 by omega), q06]⟩
  have n0 : decide ((t.size : Int) > 1048576) = false := decide_eq_false (by omega)
  have s1 := qbu c 1048576 (by omega) (by omega) (qrt hc)
  by_cases h1 : qnp c ≤ 1048576
  case neg =>
    exact (s1.mono fun k e => by
      rw [q02.f_eq, n0, q08, e, Option.bind_some, q6b _ _ (by omega), decide_eq_true (by omega), q06]).get
  have sm := qrv h1 (qru hc)
  have ln : lnB c.2.2.2.1 := qrw (by unfold qnp at h1; omega)
  have hT := qbt c sm.bk
  have hE := q73 c sm.bk
  have hI := q8j c t sm (by omega)
  have hS := qcy c t sm (by omega)
  have smr : smB (takeC c t).1.2.2.2.1 := (qhj c t).elim (fun h => by rw [h]; exact sm.bk) qeu
  have lnr : lnB (takeC c t).1.2.2.2.1 := (qhj c t).elim (fun h => by rw [h]; exact ln) qus
  generalize takeC c t = w at *
  have hE2 := q73 w.1 smr
  have hM := q7x c ln
  have hM2 := q7x w.1 lnr
  have hH := qcw w.1 lnr
  have j29 : Al fun k => q02.J29 k (qxo w.1 1) ((1 + nCl w.1 : Nat) : Int) = some true := Al.succ (hH.mono fun k e => by
    rw [q02.J29_eq, e, Option.bind_some, decide_eq_false (by omega), q08, bne_self_eq_false, q08])
  have j20 : Al fun k => q02.J20 k t c w.1 w.2 (qxo w.1 1) ((1 + nCl w.1 : Nat) : Int) = some true := Al.succ (((hH.and hT).and ((hI.and hE2).and j29)).mono fun k ⟨⟨e, e2⟩, ⟨e3, e4⟩, e5⟩ => by
    rw [q02.J20_eq, e, Option.bind_some, decide_eq_false (by omega), q08, bne_self_eq_false, q08, e2, Option.bind_some, e3, Option.bind_some, e4, Option.bind_some, Bool.not_true, q08, bne_self_eq_false, q08, e5])
  have j14 : Al fun k => q02.J14 k t c w.1 w.2 c w.1 w.2 = some true := Al.succ (((hM.and hE2).and (hM2.and j20)).mono fun k ⟨⟨e, e2⟩, e3, e4⟩ => by
    rw [q02.J14_eq, e, Option.bind_some]
    dsimp only
    rw [decide_eq_false (show ¬ ((1 + nCl c : Nat) : Int) < 0 by omega), q08, e2, Option.bind_some, Bool.not_true, q08, bne_self_eq_false, q08, e3, Option.bind_some]
    exact e4)
  have j8 : Al fun k => q02.J8 k t c w.1 w.2 = some true := Al.succ (((hT.and hI).and ((hE2.and hE).and j14)).mono fun k ⟨⟨e, e2⟩, ⟨e3, e4⟩, e5⟩ => by
    rw [q02.J8_eq, e, Option.bind_some, e2, Option.bind_some, e3, Option.bind_some, Bool.not_true, q08, bne_self_eq_false, q08, Option.bind_some, e4, Option.bind_some, Bool.not_true, q08, e5])
  refine (((s1.and hT).and (hS.and j8)).mono fun k ⟨⟨z, e⟩, e2, e3⟩ => ?_).get
  rw [q02.f_eq, n0, q08, z, Option.bind_some, q6b _ _ (by omega), decide_eq_false (by omega), q08, e, Option.bind_some, e2, Option.bind_some, e3]
end Go.Proofs.YtjfkeknnjjlepaaGreatDoor.Rf
end

section
/- 'FnExactClientTake': for every input it returns true and its arguments read as before. Conditions: those of the given row alone (the listed package variables as the program's text lays them). -/
namespace Go.Proofs.YtjfkeknnjjlepaaGreatDoor.fnExactClientTake
open Go.ChangeShapes Go.WideShapes Go.ChangeAt Go.RowKit
open Go.Proofs.YtjfkeknnjjlepaaGreatDoor.Rf Go.Proofs.YtjfkeknnjjlepaaGreatDoor.Frame
set_option linter.unusedVariables false
theorem own : ownKnob Tryz.prog.godebug = none := by kernel_rfl
theorem laidOut : laidOutB Tryz.prog = true := kLa
theorem qcx : ∀ n ∈ (["loop.example/medlar/impl.shaStep"] : List String), ∀ g t, Tryz.prog.globalNamed n = some g → (Tryz.prog.globals[g]?).map (·.type) = some t → Tryz.prog.readableRec t = true ∧ t < Tryz.prog.types.size := by
  intro n hn g t hg ht
  simp only [List.mem_cons, List.not_mem_nil, or_false] at hn
  subst hn
  · obtain rfl := Option.some.inj ((show Tryz.prog.globalNamed "loop.example/medlar/impl.shaStep" = some 0 by kernel_rfl).symm.trans hg)
    obtain rfl := Option.some.inj ((show (Tryz.prog.globals[0]?).map (·.type) = some 195 by kernel_rfl).symm.trans ht)
    exact ⟨by kernel_rfl, of_decide_eq_true (by kernel_rfl)⟩
set_option maxRecDepth 100000 in
theorem contract (H : Type) (enc : TypeId × Value → H) (W : World) (base : Nat) (args : Array Value) (ds gs : List (DataW H)) (before : List MemPlace)
    (hval0 : ∀ (j : Nat) t v, Tryz.f10.params[j]? = some t → args[j]? = some v → Value.okWide Tryz.prog W .any base t v)
    (hW : DataW.Whole enc Tryz.prog Tryz.f10.params.toList Rows.fnExactClientTakeSpec.vars false W args.toList ds gs before)
    (hsz0 : (DataW.weightsEach Tryz.prog (Tryz.f10.params.toList ++ (OpenSpec.ofChange Rows.fnExactClientTakeSpec).bare.plain.varTypes Tryz.prog) (ds ++ gs)).all (· ≤ reachBytes) = true)
    (hL : laidMetH Tryz.prog Rows.fnExactClientTakeRow.laid W) (hsh : W.ShapedOpen Tryz.prog) :
    Calls Tryz.prog 10 args W fun e W' => ∃ v, e = .returned v ∧ Rows.fnExactClientTakeSpec.post enc Tryz.prog Tryz.f10 false true false false W args v W' := by
  have hGm : ∃ x : Int, W.cell? ⟨3, 0, none⟩ = some (.int .i64 x) := Go.Proofs.cell_of_shapedOpen_int (zero := #[.int .i64 0]) (t := 3) hsh (of_decide_eq_true (by kernel_rfl)) (by kernel_rfl) rfl (by kernel_rfl) (by kernel_rfl) Tryz.underlying3
  have hGp : Lib.TabIs Tryz.prog W "internal/strconv.uint64pow10" .u64 Lib.pow10Tab := q5i (show Tryz.prog.globalNamed "internal/strconv.uint64pow10" = some 6 by kernel_rfl) (show (Tryz.prog.globals[6]?).map (·.type) = some 276 by kernel_rfl) Tryz.underlying276 Tryz.underlying194 (by kernel_rfl) (by kernel_rfl) hL (by rw [show Lib.tabData .u64 Lib.pow10Tab = Rows.laid_internal_strconv_uint64pow10 from by kernel_rfl]; simp [Rows.fnExactClientTakeRow])
  have hGs : Lib.TabIs Tryz.prog W "loop.example/medlar/impl.shaStep" .u32 q6r := q5i (show Tryz.prog.globalNamed "loop.example/medlar/impl.shaStep" = some 0 by kernel_rfl) (show (Tryz.prog.globals[0]?).map (·.type) = some 195 by kernel_rfl) Tryz.underlying195 Tryz.underlying192 (by kernel_rfl) (by kernel_rfl) hL (by rw [show Lib.tabData .u32 q6r = Rows.laid_loop_example_medlar_impl_shaStep from by kernel_rfl]; simp [Rows.fnExactClientTakeRow])
  have hGe := q5j (show Tryz.prog.globalNamed "strconv.ErrSyntax" = some 1 by kernel_rfl) (show (Tryz.prog.globals[1]?).map (·.type) = some 90 by kernel_rfl) Tryz.underlying90 hL (show ("strconv.ErrSyntax", Rows.laid_strconv_ErrSyntax) ∈ Rows.fnExactClientTakeRow.laid by simp [Rows.fnExactClientTakeRow])
  have hGr := q5j (show Tryz.prog.globalNamed "strconv.ErrRange" = some 2 by kernel_rfl) (show (Tryz.prog.globals[2]?).map (·.type) = some 90 by kernel_rfl) Tryz.underlying90 hL (show ("strconv.ErrRange", Rows.laid_strconv_ErrRange) ∈ Rows.fnExactClientTakeRow.laid by simp [Rows.fnExactClientTakeRow])
  have hJ : Jp.J W := ⟨hGm, hGp, hGs, hGe, hGr⟩
  clear hsh hL
  have hsz := hsz0
  have hval := hval0
  have hW' := hW
  obtain ⟨p, q, hA0, hV, rfl, hfz, hnd⟩ := hW
  have hA : DataW.TrodAll enc Tryz.prog W 0 (fun _ => true) true Tryz.f10.params.toList args.toList ds p := hA0
  rw [Tryz.params10] at hA hval
  obtain ⟨v0, vs0, d0, ds0, p0, q0, hargs, rfl, rfl, h0, r0⟩ := trodAll_cons hA
  obtain ⟨v1, vs1, d1, ds1, p1, q1, rfl, rfl, rfl, h1, r1⟩ := trodAll_cons r0
  obtain ⟨rfl, rfl, rfl⟩ := trodAll_nil r1
  obtain rfl : args = #[v0, v1] := by cases args; simp_all
  have lt0 : ∀ x ∈ p0, x.block < W.heap.size := by obtain ⟨m, hm⟩ := h0; exact DataW.trod_lt m _ _ _ hm
  obtain ⟨x0, o0, G0⟩ := q7t (τ := t49) (show q5l Tryz.prog t49 (.inl 64) = true by kernel_rfl) (hval 0 64 v0 rfl rfl) h0
  have lt1 : ∀ x ∈ p1, x.block < W.heap.size := by obtain ⟨m, hm⟩ := h1; exact DataW.trod_lt m _ _ _ hm
  obtain ⟨x1, o1, G1⟩ := q7t (τ := .str) (show q5l Tryz.prog .str (.inl 9) = true by kernel_rfl) (hval 1 9 v1 rfl rfl) h1
  obtain ⟨gv0, gw0, qv0, rfl, hv0⟩ := q6k hV
  obtain ⟨rfl, _⟩ := trodVars_none hv0
  clear hA0 hval0 hsz0
  obtain ⟨k, hk⟩ := qa3 x0 x1 G0 G1
  refine (row_of (q02.q k).1 rfl (x := (x0, x1)) (r := true) hk rfl (qwx hJ) hJ rfl ?_).mono fun e W' ⟨he, bel⟩ => ?_
  · intro i p s hp hs
    match i, hp, hs with
    | 0, _, hs => obtain rfl := Option.some.inj (show some (⟨t49, x0⟩ : Sv) = some s from hs); exact o0
    | 1, _, hs => obtain rfl := Option.some.inj (show some (⟨.str, x1⟩ : Sv) = some s from hs); exact o1
    | i + 2, hp, _ => simp at hp
  subst he
  obtain ⟨pv, hpv⟩ := q5v laidOut bel _ _ _ hV qcx
  exact ⟨_, rfl, _, _, _, [], _, pv, hW', trodAll_mk1 (shut_bool Tryz.underlying4 _), (trodAll_cons_mk (Below.trod laidOut (by kernel_rfl) (of_decide_eq_true (by kernel_rfl)) h0 bel lt0) (trodAll_cons_mk (Below.trod laidOut (by kernel_rfl) (of_decide_eq_true (by kernel_rfl)) h1 bel lt1) trodAll_mk0)), hpv, bel.frame _, fun h => by cases h⟩
noncomputable def q56 (os : Os) : World := World.laidAll Tryz.prog os Rows.fnExactClientTakeRow.laid
set_option maxRecDepth 100000 in
theorem q7y (os : Os) : laidMet Tryz.prog Rows.fnExactClientTakeRow.laid ((q56 os).forCall (fun _ _ => 0) ⟨#[], #[.agg #[.string ByteArray.empty, .bool false, .int .i64 0, .slice none 0 0, .slice none 0 0, .string ByteArray.empty], .string ByteArray.empty], []⟩).memory :=
  laidMet_laidAll _ (by kernel_rfl) (by kernel_rfl)
set_option maxRecDepth 100000 in
theorem reads (os : Os) {H : Type} (enc : TypeId × Value → H) : ∃ x, DataW.whole enc Tryz.prog ((q56 os).forCall (fun _ _ => 0) ⟨#[], #[.agg #[.string ByteArray.empty, .bool false, .int .i64 0, .slice none 0 0, .slice none 0 0, .string ByteArray.empty], .string ByteArray.empty], []⟩).memory Tryz.f10.params.toList Rows.fnExactClientTakeSpec.vars false #[(.agg #[.string ByteArray.empty, .bool false, .int .i64 0, .slice none 0 0, .slice none 0 0, .string ByteArray.empty] : Value), (.string ByteArray.empty : Value)].toList 12 = some x :=
  Option.isSome_iff_exists.1 (by kernel_rfl)
set_option maxRecDepth 100000 in
theorem lifted (os : Os) (started : os.Started) (H : Type) (enc : TypeId × Value → H) (F : Stop.Interp) :
    ReturnsInHanded {} Tryz.checked os 10 .any ((OpenSpec.ofChange Rows.fnExactClientTakeSpec).preRow enc Tryz.prog Tryz.f10 Rows.fnExactClientTakeRow.domain false Rows.fnExactClientTakeRow.laid) (((OpenSpec.ofChange Rows.fnExactClientTakeSpec).at F).post enc Tryz.prog Tryz.f10 false true false false) := by
  obtain ⟨x, hx⟩ := reads os enc
  refine returnsInHanded_of_row (C := Tryz.checked) (s := OpenSpec.ofChange Rows.fnExactClientTakeSpec) own started (by kernel_rfl) Tryz.func10
    (witness_row_at (enc := enc) (C := Tryz.checked) false (q56 os) #[.agg #[.string ByteArray.empty, .bool false, .int .i64 0, .slice none 0 0, .slice none 0 0, .string ByteArray.empty], .string ByteArray.empty] rfl (by kernel_rfl) (by kernel_rfl) (by kernel_rfl)
      (OpenSpec.preRow_of_cond 12 (x := x) hx (by kernel_rfl) (fun k hk => by cases hk) (by kernel_rfl) (q7y os))) ?_
  intro W base args ds gs before hval hW _ _ hsz hL hsh _
  exact contract H enc W base args ds gs before hval hW hsz hL hsh
theorem kIp : (Rows.fnExactClientTakeRow.inPlace == Tryz.prog.inPlace 10) = true := by kernel_rfl
theorem kUn : (Rows.fnExactClientTakeRow.unfollowed == Tryz.prog.unfollowed 10) = true := by kernel_rfl
theorem kRe : (Rows.fnExactClientTakeRow.recurses == Tryz.prog.recurses 10) = true := by kernel_rfl
theorem kNa : (Rows.fnExactClientTakeRow.named == Tryz.prog.varsNamed 10) = true := by kernel_rfl
theorem kGo : false = Rows.fnExactClientTakeRow.goesBy Tryz.prog := by kernel_rfl
theorem closed : joinedFacts Tryz.prog 10 Tryz.f10 (OpenSpec.ofChange Rows.fnExactClientTakeSpec).bare Rows.fnExactClientTakeRow = true := by
  have kMk' : (Tryz.prog.make == some Rows.fnExactClientTakeRow.make) = true := kMk
  have kLi' : (Rows.fnExactClientTakeRow.lifted == Tryz.prog.liftsFinal) = true := kLi
  have kPk' : (Rows.fnExactClientTakeRow.plainKeys == Tryz.prog.plainKeys) = true := kPk
  unfold joinedFacts
  rw [kIp, kUn, kRe, kNa, kLa, kMr, kPk', kSh, kMe, kLi', kMk']
  show _ = true
  kernel_rfl
theorem said : Rows.FnExactClientTakeSaid :=
  OpenClaim.holds_of_cond 10 Tryz.f10 rfl rfl rfl rfl rfl rfl rfl ⟨rfl, rfl, rfl, rfl, rfl⟩ rfl rfl rfl rfl rfl (by kernel_rfl) Tryz.func10 closed
    (of_decide_eq_true (by kernel_rfl)) (by unfold Func.isWrapper; first | (rw [if_pos (by decide +kernel)]; kernel_rfl) | (rw [if_neg (by decide +kernel)]; exact ⟨rfl, rfl⟩))
    (fun os started H enc _ F => by rw [OpenClaim.pre_eq_preRow]; exact lifted os started H enc F)
theorem plain (f : FuncId) (fn : Func) (hf : Tryz.pinned.checked.prog.funcNamed "loop.example/medlar/laws.FnExactClientTake" = some f) (hfn : Tryz.pinned.checked.prog.funcs[f]? = some fn) :
    true = Tryz.pinned.checked.prog.looks [] ∧ ∀ (j : Nat) t, fn.params[j]? = some t → Tryz.pinned.checked.prog.wantsStandIn t = false := by
  obtain rfl : f = 10 := Option.some.inj ((show Tryz.prog.funcNamed "loop.example/medlar/laws.FnExactClientTake" = some 10 by kernel_rfl).symm.trans hf) |>.symm
  obtain rfl : fn = Tryz.f10 := (Option.some.inj (Tryz.func10.symm.trans hfn)).symm
  refine ⟨by kernel_rfl, fun j t ht => ?_⟩
  rw [Tryz.params10] at ht
  have hm := Array.mem_of_getElem? ht
  simp only [List.mem_toArray, List.mem_cons, List.not_mem_nil, or_false] at hm
  rcases hm with rfl | rfl
  · exact (show Tryz.prog.wantsStandIn 64 = false by kernel_rfl)
  · exact (show Tryz.prog.wantsStandIn 9 = false by kernel_rfl)
theorem card : Rows.FnExactClientTakeCardSaid :=
  Claim7.holds_tied_plain_at .later [] _ _ _ _ said (fun _ h => by cases h) (by kernel_rfl) (fun _ h => by cases h) fnExactClientTake_row_tie rfl ⟨rfl, rfl⟩ (by kernel_rfl) rfl plain kGo
end Go.Proofs.YtjfkeknnjjlepaaGreatDoor.fnExactClientTake
namespace Go.Proofs.YtjfkeknnjjlepaaGreatDoor
theorem fnExactClientTake_holds : Rows.FnExactClientTakeCardSaid := fnExactClientTake.card
end Go.Proofs.YtjfkeknnjjlepaaGreatDoor
end
