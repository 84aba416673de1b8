/- Functions of the program, told plainly, and their contracts: part A1. -/
import Derived.Test.YtabindnaedchgaaRtA0
import Derived.Test.YtabindnaedchgaaXEntryAt
namespace Go.Proofs.Ytabindnaedchgaa.Rf
open Go Go.RowKit
set_option linter.unusedVariables false
noncomputable def spec_DeltaOk.C (k : Nat) : CEs := [(44, ⟨spec_l1Word.ps, spec_l1Word.rs, spec_l1Word.F k⟩), (46, ⟨spec_l2Affixes.ps, spec_l2Affixes.rs, spec_l2Affixes.F k⟩), (45, ⟨spec_l5Entries.ps, spec_l5Entries.rs, spec_l5Entries.F k⟩)]
abbrev spec_DeltaOk.ps : List Par := [⟨t28, .rd⟩]
abbrev spec_DeltaOk.rs : List Res := [⟨.bool, .ro, false⟩]
def spec_DeltaOk.H : Heads := [(2, [(1, .ro), (3, .ro)]), (7, [(1, .ro), (3, .ro), (4, .ro)])]
noncomputable def spec_DeltaOk.F : Nat → ProdT (spec_DeltaOk.ps.map (·.τ)) → Option (ProdT (outs spec_DeltaOk.ps spec_DeltaOk.rs)) := evFn E spec_DeltaOk.C spec_DeltaOk.H Try.f11 spec_DeltaOk.ps spec_DeltaOk.rs
noncomputable def spec_DeltaOk.L2 (k k1 : Nat) (x1 : Delta) (x3 : Int) : Option (Bool) := atL E spec_DeltaOk.C spec_DeltaOk.H Try.f11 spec_DeltaOk.ps spec_DeltaOk.rs [true, false, true, true] k [] k1 (sh 80 [(1, .box t28 x1 .ro none), (3, .d (.int .i64) x3 .ro)])
noncomputable def spec_DeltaOk.L7 (k k1 k2 : Nat) (x1 : Delta) (x3 : Int) (x4 : Int) : Option (Bool) := atL E spec_DeltaOk.C spec_DeltaOk.H Try.f11 spec_DeltaOk.ps spec_DeltaOk.rs [true, false, true, true, true, true, false, true, true, true, true] k [k1] k2 (sh 80 [(1, .box t28 x1 .ro none), (3, .d (.int .i64) x3 .ro), (4, .d (.int .i64) x4 .ro)])
noncomputable def spec_DeltaOk.f (k : Nat) (x0 : Delta) : Option (Bool) := spec_DeltaOk.F k x0
theorem spec_DeltaOk.f_eq (k : Nat) (x0 : Delta) : spec_DeltaOk.f k x0 = spec_DeltaOk.L2 k k x0 (0 : Int) := by kernel_rfl
theorem spec_DeltaOk.L2_eq (k k1 : Nat) (x1 : Delta) (x3 : Int) : spec_DeltaOk.L2 k (k1 + 1) x1 x3 = ifb (decide (x3 < (x1.1.length : Int))) (ifb (decide (0 ≤ x3) && decide (x3 < (x1.1.length : Int))) ((spec_l1Word.f k1 (x1.1.getD x3.toNat bz)).bind fun (r0 : Bool) => ifb (!r0) (some false) (ifb (decide (x3 > 0)) (ifb (decide (0 ≤ (w64 (x3 - 1))) && decide ((w64 (x3 - 1)) < (x1.1.length : Int))) (ifb (decide (0 ≤ x3) && decide (x3 < (x1.1.length : Int))) (ifb (!(Op.bytesLess (x1.1.getD ((w64 (x3 - 1)).toNat) bz).toList (x1.1.getD x3.toNat bz).toList)) (some false) (spec_DeltaOk.L7 k k1 k1 x1 x3 (0 : Int))) (none)) (none)) (spec_DeltaOk.L7 k k1 k1 x1 x3 (0 : Int)))) (none)) (ifb (decide ((x1.1.length : Int) ≤ (24 : Int))) ((spec_l5Entries.f k x1.2.1).bind fun (r1 : Bool) => ifb r1 ((spec_l2Affixes.f k x1.2.2.2).bind fun (r2 : Bool) => ifb r2 (ifb x1.2.2.1 (some true) (some ((x1.2.2.2.length : Int) == (0 : Int)))) (some false)) (some false)) (some false)) := by kernel_rfl
theorem spec_DeltaOk.L7_eq (k k1 k2 : Nat) (x1 : Delta) (x3 : Int) (x4 : Int) : spec_DeltaOk.L7 k k1 (k2 + 1) x1 x3 x4 = ifb (decide (x4 < (x1.2.1.length : Int))) (ifb (decide (0 ≤ x4) && decide (x4 < (x1.2.1.length : Int))) (ifb (decide (0 ≤ x3) && decide (x3 < (x1.1.length : Int))) (ifb (((x1.2.1.getD x4.toNat zE).1).toList == (x1.1.getD x3.toNat bz).toList) (some false) (spec_DeltaOk.L7 k k1 k2 x1 x3 (w64 (x4 + 1)))) (none)) (none)) (spec_DeltaOk.L2 k k1 x1 (w64 (x3 + 1))) := by kernel_rfl
theorem spec_DeltaOk.ok (k : Nat) : CsOk Try.prog Jp (spec_DeltaOk.C k) := .cons (spec_l1Word.snd k) spec_l1Word.can <| .cons (spec_l2Affixes.snd k) spec_l2Affixes.can <| .cons (spec_l5Entries.snd k) spec_l5Entries.can <| .nil
theorem spec_DeltaOk.can : Can Try.prog 11 := can_of (fn := Try.f11) (by kernel_rfl) (by kernel_rfl) (by kernel_rfl)
theorem spec_DeltaOk.snd (k : Nat) : Snd Try.prog Jp 11 ⟨spec_DeltaOk.ps, spec_DeltaOk.rs, spec_DeltaOk.F k⟩ := snd_of E_ok spec_DeltaOk.ok mixed (fn := Try.f11) (by kernel_rfl) (by kernel_rfl) (by kernel_rfl) k
noncomputable def spec_l5At.C (k : Nat) : CEs := []
abbrev spec_l5At.ps : List Par := [⟨t24, .rd⟩, ⟨.str, .rd⟩]
abbrev spec_l5At.rs : List Res := [⟨(.int .i64), .ro, false⟩, ⟨.bool, .ro, false⟩]
def spec_l5At.H : Heads := [(2, [(0, .ro), (1, .ro), (6, .ro)])]
noncomputable def spec_l5At.F : Nat → ProdT (spec_l5At.ps.map (·.τ)) → Option (ProdT (outs spec_l5At.ps spec_l5At.rs)) := evFn E spec_l5At.C spec_l5At.H Try.f38 spec_l5At.ps spec_l5At.rs
noncomputable def spec_l5At.L2 (k k1 : Nat) (x0 : List En) (x1 : ByteArray) (x6 : Int) : Option (Int × Bool) := atL E spec_l5At.C spec_l5At.H Try.f38 spec_l5At.ps spec_l5At.rs [true, true, false, true] k [] k1 (sh 36 [(0, .d t24 x0 .ro), (1, .d .str x1 .ro), (6, .d (.int .i64) x6 .ro)])
noncomputable def spec_l5At.f (k : Nat) (x0 : List En) (x1 : ByteArray) : Option (Int × Bool) := spec_l5At.F k (x0, x1)
theorem spec_l5At.f_eq (k : Nat) (x0 : List En) (x1 : ByteArray) : spec_l5At.f k x0 x1 = spec_l5At.L2 k k x0 x1 (0 : Int) := by kernel_rfl
theorem spec_l5At.L2_eq (k k1 : Nat) (x0 : List En) (x1 : ByteArray) (x6 : Int) : spec_l5At.L2 k (k1 + 1) x0 x1 x6 = ifb (decide (x6 < (x0.length : Int))) (ifb (decide (0 ≤ x6) && decide (x6 < (x0.length : Int))) (ifb (Op.bytesLess ((x0.getD x6.toNat zE).1).toList x1.toList) (spec_l5At.L2 k k1 x0 x1 (w64 (x6 + 1))) (ifb (decide (x6 < (x0.length : Int))) (ifb (decide (0 ≤ x6) && decide (x6 < (x0.length : Int))) (some (x6, (((x0.getD x6.toNat zE).1).toList == x1.toList))) (none)) (some (x6, false)))) (none)) (ifb (decide (x6 < (x0.length : Int))) (ifb (decide (0 ≤ x6) && decide (x6 < (x0.length : Int))) (some (x6, (((x0.getD x6.toNat zE).1).toList == x1.toList))) (none)) (some (x6, false))) := by kernel_rfl
theorem spec_l5At.ok (k : Nat) : CsOk Try.prog Jp (spec_l5At.C k) := .nil
theorem spec_l5At.can : Can Try.prog 38 := can_of (fn := Try.f38) (by kernel_rfl) (by kernel_rfl) (by kernel_rfl)
theorem spec_l5At.snd (k : Nat) : Snd Try.prog Jp 38 ⟨spec_l5At.ps, spec_l5At.rs, spec_l5At.F k⟩ := snd_of E_ok spec_l5At.ok mixed (fn := Try.f38) (by kernel_rfl) (by kernel_rfl) (by kernel_rfl) k
noncomputable def spec_l5Book.C (k : Nat) : CEs := []
abbrev spec_l5Book.ps : List Par := [⟨t25, .rd⟩]
abbrev spec_l5Book.rs : List Res := [⟨t25, (.pr (.own .ro) (.own .ro)), false⟩]
def spec_l5Book.H : Heads := []
noncomputable def spec_l5Book.F : Nat → ProdT (spec_l5Book.ps.map (·.τ)) → Option (ProdT (outs spec_l5Book.ps spec_l5Book.rs)) := evFn E spec_l5Book.C spec_l5Book.H Try.f39 spec_l5Book.ps spec_l5Book.rs
noncomputable def spec_l5Book.f (k : Nat) (x0 : Book) : Option Book := spec_l5Book.F k x0
theorem spec_l5Book.f_eq (k : Nat) (x0 : Book) : spec_l5Book.f k x0 = ifb (decide ((([] : List Aff).length + x0.1.length) * 72 ≤ rowMax)) (ifb (decide ((([] : List En).length + x0.2.length) * 32 ≤ rowMax)) (some ((([] : List Aff) ++ x0.1), (([] : List En) ++ x0.2))) (none)) (none) := by kernel_rfl
theorem spec_l5Book.ok (k : Nat) : CsOk Try.prog Jp (spec_l5Book.C k) := .nil
theorem spec_l5Book.can : Can Try.prog 39 := can_of (fn := Try.f39) (by kernel_rfl) (by kernel_rfl) (by kernel_rfl)
theorem spec_l5Book.snd (k : Nat) : Snd Try.prog Jp 39 ⟨spec_l5Book.ps, spec_l5Book.rs, spec_l5Book.F k⟩ := snd_of E_ok spec_l5Book.ok mixed (fn := Try.f39) (by kernel_rfl) (by kernel_rfl) (by kernel_rfl) k
noncomputable def spec_l2In.C (k : Nat) : CEs := []
abbrev spec_l2In.ps : List Par := [⟨(.row .str), .rd⟩, ⟨.str, .rd⟩]
abbrev spec_l2In.rs : List Res := [⟨.bool, .ro, false⟩]
def spec_l2In.H : Heads := [(2, [(0, .ro), (1, .ro), (5, .ro)])]
noncomputable def spec_l2In.F : Nat → ProdT (spec_l2In.ps.map (·.τ)) → Option (ProdT (outs spec_l2In.ps spec_l2In.rs)) := evFn E spec_l2In.C spec_l2In.H Try.f82 spec_l2In.ps spec_l2In.rs
noncomputable def spec_l2In.L2 (k k1 : Nat) (x0 : List ByteArray) (x1 : ByteArray) (x5 : Int) : Option (Bool) := atL E spec_l2In.C spec_l2In.H Try.f82 spec_l2In.ps spec_l2In.rs [true, false, true, true] k [] k1 (sh 18 [(0, .d (.row .str) x0 .ro), (1, .d .str x1 .ro), (5, .d (.int .i64) x5 .ro)])
noncomputable def spec_l2In.f (k : Nat) (x0 : List ByteArray) (x1 : ByteArray) : Option (Bool) := spec_l2In.F k (x0, x1)
theorem spec_l2In.f_eq (k : Nat) (x0 : List ByteArray) (x1 : ByteArray) : spec_l2In.f k x0 x1 = spec_l2In.L2 k k x0 x1 (0 : Int) := by kernel_rfl
theorem spec_l2In.L2_eq (k k1 : Nat) (x0 : List ByteArray) (x1 : ByteArray) (x5 : Int) : spec_l2In.L2 k (k1 + 1) x0 x1 x5 = ifb (decide (x5 < (x0.length : Int))) (ifb (decide (0 ≤ x5) && decide (x5 < (x0.length : Int))) (ifb ((x0.getD x5.toNat bz).toList == x1.toList) (some true) (spec_l2In.L2 k k1 x0 x1 (w64 (x5 + 1)))) (none)) (some false) := by kernel_rfl
theorem spec_l2In.ok (k : Nat) : CsOk Try.prog Jp (spec_l2In.C k) := .nil
theorem spec_l2In.can : Can Try.prog 82 := can_of (fn := Try.f82) (by kernel_rfl) (by kernel_rfl) (by kernel_rfl)
theorem spec_l2In.snd (k : Nat) : Snd Try.prog Jp 82 ⟨spec_l2In.ps, spec_l2In.rs, spec_l2In.F k⟩ := snd_of E_ok spec_l2In.ok mixed (fn := Try.f82) (by kernel_rfl) (by kernel_rfl) (by kernel_rfl) k
noncomputable def spec_l5Do.C (k : Nat) : CEs := [(38, ⟨spec_l5At.ps, spec_l5At.rs, spec_l5At.F k⟩), (39, ⟨spec_l5Book.ps, spec_l5Book.rs, spec_l5Book.F k⟩), (82, ⟨spec_l2In.ps, spec_l2In.rs, spec_l2In.F k⟩)]
abbrev spec_l5Do.ps : List Par := [⟨t25, .rd⟩, ⟨t28, .rd⟩]
abbrev spec_l5Do.rs : List Res := [⟨t25, (.pr (.own .ro) (.own .ro)), false⟩]
def spec_l5Do.H : Heads := [(4, [(2, .ro), (3, .ro), (4, (.pr (.own .ro) (.own .ro))), (5, (.pr (.own .ro) (.own .ro))), (6, (.own .ro)), (7, .ro)]), (10, [(3, .ro), (4, (.pr (.own .ro) (.own .ro))), (5, (.pr (.own .ro) (.own .ro))), (6, (.own .ro)), (10, .ro)])]
noncomputable def spec_l5Do.F : Nat → ProdT (spec_l5Do.ps.map (·.τ)) → Option (ProdT (outs spec_l5Do.ps spec_l5Do.rs)) := evFn E spec_l5Do.C spec_l5Do.H Try.f40 spec_l5Do.ps spec_l5Do.rs
noncomputable def spec_l5Do.L4 (k k1 : Nat) (x2 : Book) (x3 : Delta) (x4 : Book) (x5 : Book) (x6 : List En) (x7 : Int) : Option Book := atL E spec_l5Do.C spec_l5Do.H Try.f40 spec_l5Do.ps spec_l5Do.rs [true, true, true, false, true, true] k [] k1 (sh 101 [(2, .box t25 x2 .ro none), (3, .box t28 x3 .ro none), (4, .box t25 x4 (.pr (.own .ro) (.own .ro)) none), (5, .box t25 x5 (.pr (.own .ro) (.own .ro)) none), (6, .d t24 x6 (.own .ro)), (7, .d (.int .i64) x7 .ro)])
noncomputable def spec_l5Do.L10 (k k1 : Nat) (x3 : Delta) (x4 : Book) (x5 : Book) (x6 : List En) (x10 : Int) : Option Book := atL E spec_l5Do.C spec_l5Do.H Try.f40 spec_l5Do.ps spec_l5Do.rs [true, true, true, true, false, true, true] k [] k1 (sh 101 [(3, .box t28 x3 .ro none), (4, .box t25 x4 (.pr (.own .ro) (.own .ro)) none), (5, .box t25 x5 (.pr (.own .ro) (.own .ro)) none), (6, .d t24 x6 (.own .ro)), (10, .d (.int .i64) x10 .ro)])
noncomputable def spec_l5Do.f (k : Nat) (x0 : Book) (x1 : Delta) : Option Book := spec_l5Do.F k (x0, x1)
theorem spec_l5Do.f_eq (k : Nat) (x0 : Book) (x1 : Delta) : spec_l5Do.f k x0 x1 = (spec_l5Book.f k x0).bind fun (r0 : Book) => spec_l5Do.L4 k k x0 x1 (([] : List Aff), ([] : List En)) r0 ([] : List En) (0 : Int) := by kernel_rfl
theorem spec_l5Do.L4_eq (k k1 : Nat) (x2 : Book) (x3 : Delta) (x4 : Book) (x5 : Book) (x6 : List En) (x7 : Int) : spec_l5Do.L4 k (k1 + 1) x2 x3 x4 x5 x6 x7 = ifb (decide (x7 < (x2.2.length : Int))) (ifb (decide (0 ≤ x7) && decide (x7 < (x2.2.length : Int))) ((spec_l5At.f k1 x3.2.1 ((x2.2.getD x7.toNat zE).1)).bind fun (r1 : Int × Bool) => ifb (!r1.2) (ifb (decide (0 ≤ x7) && decide (x7 < (x2.2.length : Int))) ((spec_l2In.f k1 x3.1 ((x2.2.getD x7.toNat zE).1)).bind fun (r2 : Bool) => ifb (!r2) (ifb (decide (0 ≤ x7) && decide (x7 < (x2.2.length : Int))) (ifb (decide ((x6.length + [(x2.2.getD x7.toNat zE)].length) * 32 ≤ rowMax)) (spec_l5Do.L4 k k1 x2 x3 x4 x5 (x6 ++ [(x2.2.getD x7.toNat zE)]) (w64 (x7 + 1))) (none)) (none)) (spec_l5Do.L4 k k1 x2 x3 x4 x5 x6 (w64 (x7 + 1)))) (none)) (spec_l5Do.L4 k k1 x2 x3 x4 x5 x6 (w64 (x7 + 1)))) (none)) (spec_l5Do.L10 k k x3 x4 x5 x6 (0 : Int)) := by kernel_rfl
theorem spec_l5Do.L10_eq (k k1 : Nat) (x3 : Delta) (x4 : Book) (x5 : Book) (x6 : List En) (x10 : Int) : spec_l5Do.L10 k (k1 + 1) x3 x4 x5 x6 x10 = ifb (decide (x10 < (x3.2.1.length : Int))) (ifb (decide (0 ≤ x10) && decide (x10 < (x3.2.1.length : Int))) ((spec_l5At.f k1 x6 ((x3.2.1.getD x10.toNat zE).1)).bind fun (r3 : Int × Bool) => ifb (decide (0 ≤ (0 : Int)) && (decide ((0 : Int) ≤ r3.1) && decide (r3.1 ≤ (x6.length : Int)))) (ifb (decide ((([] : List En).length + ((x6.take r3.1.toNat).drop (0 : Int).toNat).length) * 32 ≤ rowMax)) (ifb (decide (0 ≤ x10) && decide (x10 < (x3.2.1.length : Int))) (ifb (decide (((([] : List En) ++ ((x6.take r3.1.toNat).drop (0 : Int).toNat)).length + [(x3.2.1.getD x10.toNat zE)].length) * 32 ≤ rowMax)) (ifb (decide (0 ≤ r3.1) && (decide (r3.1 ≤ (x6.length : Int)) && decide ((x6.length : Int) ≤ (x6.length : Int)))) (ifb (decide ((((([] : List En) ++ ((x6.take r3.1.toNat).drop (0 : Int).toNat)) ++ [(x3.2.1.getD x10.toNat zE)]).length + ((x6.take (x6.length : Int).toNat).drop r3.1.toNat).length) * 32 ≤ rowMax)) (spec_l5Do.L10 k k1 x3 x4 x5 (((([] : List En) ++ ((x6.take r3.1.toNat).drop (0 : Int).toNat)) ++ [(x3.2.1.getD x10.toNat zE)]) ++ ((x6.take (x6.length : Int).toNat).drop r3.1.toNat)) (w64 (x10 + 1))) (none)) (none)) (none)) (none)) (none)) (none)) (none)) (ifb x3.2.2.1 (ifb (decide ((([] : List Aff).length + x3.2.2.2.length) * 72 ≤ rowMax)) (some ((([] : List Aff) ++ x3.2.2.2), x6)) (none)) (some (x5.1, x6))) := by kernel_rfl
theorem spec_l5Do.ok (k : Nat) : CsOk Try.prog Jp (spec_l5Do.C k) := .cons (spec_l5At.snd k) spec_l5At.can <| .cons (spec_l5Book.snd k) spec_l5Book.can <| .cons (spec_l2In.snd k) spec_l2In.can <| .nil
theorem spec_l5Do.can : Can Try.prog 40 := can_of (fn := Try.f40) (by kernel_rfl) (by kernel_rfl) (by kernel_rfl)
theorem spec_l5Do.snd (k : Nat) : Snd Try.prog Jp 40 ⟨spec_l5Do.ps, spec_l5Do.rs, spec_l5Do.F k⟩ := snd_of E_ok spec_l5Do.ok mixed (fn := Try.f40) (by kernel_rfl) (by kernel_rfl) (by kernel_rfl) k
noncomputable def spec_DeltaDo.C (k : Nat) : CEs := [(12, ⟨spec_BookOk.ps, spec_BookOk.rs, spec_BookOk.F k⟩), (11, ⟨spec_DeltaOk.ps, spec_DeltaOk.rs, spec_DeltaOk.F k⟩), (38, ⟨spec_l5At.ps, spec_l5At.rs, spec_l5At.F k⟩), (39, ⟨spec_l5Book.ps, spec_l5Book.rs, spec_l5Book.F k⟩), (40, ⟨spec_l5Do.ps, spec_l5Do.rs, spec_l5Do.F k⟩)]
abbrev spec_DeltaDo.ps : List Par := [⟨t25, .rd⟩, ⟨t28, .rd⟩]
abbrev spec_DeltaDo.rs : List Res := [⟨t25, (.pr (.own .ro) (.own .ro)), false⟩, ⟨.bool, .ro, false⟩]
def spec_DeltaDo.H : Heads := [(4, [(2, .ro), (3, .ro), (4, (.pr (.own .ro) (.own .ro))), (6, .ro)])]
noncomputable def spec_DeltaDo.F : Nat → ProdT (spec_DeltaDo.ps.map (·.τ)) → Option (ProdT (outs spec_DeltaDo.ps spec_DeltaDo.rs)) := evFn E spec_DeltaDo.C spec_DeltaDo.H Try.f8 spec_DeltaDo.ps spec_DeltaDo.rs
noncomputable def spec_DeltaDo.L4 (k k1 : Nat) (x2 : Book) (x3 : Delta) (x4 : Book) (x6 : Int) : Option (Book × Bool) := atL E spec_DeltaDo.C spec_DeltaDo.H Try.f8 spec_DeltaDo.ps spec_DeltaDo.rs [true, true, false, true, true] k [] k1 (sh 50 [(2, .box t25 x2 .ro none), (3, .box t28 x3 .ro none), (4, .box t25 x4 (.pr (.own .ro) (.own .ro)) none), (6, .d (.int .i64) x6 .ro)])
noncomputable def spec_DeltaDo.f (k : Nat) (x0 : Book) (x1 : Delta) : Option (Book × Bool) := spec_DeltaDo.F k (x0, x1)
theorem spec_DeltaDo.f_eq (k : Nat) (x0 : Book) (x1 : Delta) : spec_DeltaDo.f k x0 x1 = (spec_BookOk.f k x0).bind fun (r0 : Bool) => ifb (!r0) (some ((([] : List Aff), ([] : List En)), false)) ((spec_DeltaOk.f k x1).bind fun (r1 : Bool) => ifb (!r1) (some ((([] : List Aff), ([] : List En)), false)) (spec_DeltaDo.L4 k k x0 x1 (([] : List Aff), ([] : List En)) (0 : Int))) := by kernel_rfl
theorem spec_DeltaDo.L4_eq (k k1 : Nat) (x2 : Book) (x3 : Delta) (x4 : Book) (x6 : Int) : spec_DeltaDo.L4 k (k1 + 1) x2 x3 x4 x6 = ifb (decide (x6 < (x3.1.length : Int))) (ifb (decide (0 ≤ x6) && decide (x6 < (x3.1.length : Int))) ((spec_l5At.f k1 x2.2 (x3.1.getD x6.toNat bz)).bind fun (r2 : Int × Bool) => ifb (!r2.2) ((spec_l5Book.f k1 x2).bind fun (r3 : Book) => some (r3, false)) (spec_DeltaDo.L4 k k1 x2 x3 x4 (w64 (x6 + 1)))) (none)) ((spec_l5Do.f k x2 x3).bind fun (r4 : Book) => (spec_BookOk.f k r4).bind fun (r5 : Bool) => ifb (!r5) ((spec_l5Book.f k x2).bind fun (r6 : Book) => some (r6, false)) (some (r4, true))) := by kernel_rfl
theorem spec_DeltaDo.ok (k : Nat) : CsOk Try.prog Jp (spec_DeltaDo.C k) := .cons (spec_BookOk.snd k) spec_BookOk.can <| .cons (spec_DeltaOk.snd k) spec_DeltaOk.can <| .cons (spec_l5At.snd k) spec_l5At.can <| .cons (spec_l5Book.snd k) spec_l5Book.can <| .cons (spec_l5Do.snd k) spec_l5Do.can <| .nil
theorem spec_DeltaDo.can : Can Try.prog 8 := can_of (fn := Try.f8) (by kernel_rfl) (by kernel_rfl) (by kernel_rfl)
theorem spec_DeltaDo.snd (k : Nat) : Snd Try.prog Jp 8 ⟨spec_DeltaDo.ps, spec_DeltaDo.rs, spec_DeltaDo.F k⟩ := snd_of E_ok spec_DeltaDo.ok mixed (fn := Try.f8) (by kernel_rfl) (by kernel_rfl) (by kernel_rfl) k
noncomputable def impl_upper.C (k : Nat) : CEs := []
abbrev impl_upper.ps : List Par := [⟨(.int .u8), .rd⟩]
abbrev impl_upper.rs : List Res := [⟨.bool, .ro, false⟩]
def impl_upper.H : Heads := []
noncomputable def impl_upper.F : Nat → ProdT (impl_upper.ps.map (·.τ)) → Option (ProdT (outs impl_upper.ps impl_upper.rs)) := evFn E impl_upper.C impl_upper.H Try.f106 impl_upper.ps impl_upper.rs
noncomputable def impl_upper.f (k : Nat) (x0 : Int) : Option (Bool) := impl_upper.F k x0
theorem impl_upper.f_eq (k : Nat) (x0 : Int) : impl_upper.f k x0 = ifb (decide (x0 ≥ (65 : Int))) (some (decide (x0 ≤ (90 : Int)))) (some false) := by kernel_rfl
theorem impl_upper.ok (k : Nat) : CsOk Try.prog Jp (impl_upper.C k) := .nil
theorem impl_upper.can : Can Try.prog 106 := can_of (fn := Try.f106) (by kernel_rfl) (by kernel_rfl) (by kernel_rfl)
theorem impl_upper.snd (k : Nat) : Snd Try.prog Jp 106 ⟨impl_upper.ps, impl_upper.rs, impl_upper.F k⟩ := snd_of E_ok impl_upper.ok mixed (fn := Try.f106) (by kernel_rfl) (by kernel_rfl) (by kernel_rfl) k
noncomputable def impl_lower.C (k : Nat) : CEs := []
abbrev impl_lower.ps : List Par := [⟨.str, .rd⟩]
abbrev impl_lower.rs : List Res := [⟨.bool, .ro, false⟩]
def impl_lower.H : Heads := [(2, [(0, .ro), (5, .ro), (6, .ro)])]
noncomputable def impl_lower.F : Nat → ProdT (impl_lower.ps.map (·.τ)) → Option (ProdT (outs impl_lower.ps impl_lower.rs)) := evFn E impl_lower.C impl_lower.H Try.f105 impl_lower.ps impl_lower.rs
noncomputable def impl_lower.L2 (k k1 : Nat) (x0 : ByteArray) (x5 : Int) (x6 : Int) : Option (Bool) := atL E impl_lower.C impl_lower.H Try.f105 impl_lower.ps impl_lower.rs [true, false, true, true] k [] k1 (sh 20 [(0, .d .str x0 .ro), (5, .d (.int .i64) x5 .ro), (6, .d (.int .i64) x6 .ro)])
noncomputable def impl_lower.f (k : Nat) (x0 : ByteArray) : Option (Bool) := impl_lower.F k x0
theorem impl_lower.f_eq (k : Nat) (x0 : ByteArray) : impl_lower.f k x0 = impl_lower.L2 k k x0 (x0.size : Int) (0 : Int) := by kernel_rfl
theorem impl_lower.L2_eq (k k1 : Nat) (x0 : ByteArray) (x5 : Int) (x6 : Int) : impl_lower.L2 k (k1 + 1) x0 x5 x6 = ifb (decide (x6 < x5)) (ifb (decide (0 ≤ x6) && decide (x6 < (x0.size : Int))) (ifb (decide ((byteAt x0 x6) < (97 : Int))) (some false) (ifb (decide (0 ≤ x6) && decide (x6 < (x0.size : Int))) (ifb (decide ((byteAt x0 x6) > (122 : Int))) (some false) (impl_lower.L2 k k1 x0 x5 (w64 (x6 + 1)))) (none))) (none)) (some true) := by kernel_rfl
theorem impl_lower.ok (k : Nat) : CsOk Try.prog Jp (impl_lower.C k) := .nil
theorem impl_lower.can : Can Try.prog 105 := can_of (fn := Try.f105) (by kernel_rfl) (by kernel_rfl) (by kernel_rfl)
theorem impl_lower.snd (k : Nat) : Snd Try.prog Jp 105 ⟨impl_lower.ps, impl_lower.rs, impl_lower.F k⟩ := snd_of E_ok impl_lower.ok mixed (fn := Try.f105) (by kernel_rfl) (by kernel_rfl) (by kernel_rfl) k
noncomputable def i_stringslite_HasPrefix.C (k : Nat) : CEs := []
abbrev i_stringslite_HasPrefix.ps : List Par := [⟨.str, .rd⟩, ⟨.str, .rd⟩]
abbrev i_stringslite_HasPrefix.rs : List Res := [⟨.bool, .ro, false⟩]
def i_stringslite_HasPrefix.H : Heads := []
noncomputable def i_stringslite_HasPrefix.F : Nat → ProdT (i_stringslite_HasPrefix.ps.map (·.τ)) → Option (ProdT (outs i_stringslite_HasPrefix.ps i_stringslite_HasPrefix.rs)) := evFn E i_stringslite_HasPrefix.C i_stringslite_HasPrefix.H Try.f131 i_stringslite_HasPrefix.ps i_stringslite_HasPrefix.rs
noncomputable def i_stringslite_HasPrefix.f (k : Nat) (x0 : ByteArray) (x1 : ByteArray) : Option (Bool) := i_stringslite_HasPrefix.F k (x0, x1)
theorem i_stringslite_HasPrefix.f_eq (k : Nat) (x0 : ByteArray) (x1 : ByteArray) : i_stringslite_HasPrefix.f k x0 x1 = ifb (decide ((x0.size : Int) ≥ (x1.size : Int))) (ifb (decide (0 ≤ (0 : Int)) && (decide ((0 : Int) ≤ (x1.size : Int)) && decide ((x1.size : Int) ≤ (x0.size : Int)))) (some ((x0.extract (0 : Int).toNat (x1.size : Int).toNat).toList == x1.toList)) (none)) (some false) := by kernel_rfl
theorem i_stringslite_HasPrefix.ok (k : Nat) : CsOk Try.prog Jp (i_stringslite_HasPrefix.C k) := .nil
theorem i_stringslite_HasPrefix.can : Can Try.prog 131 := can_of (fn := Try.f131) (by kernel_rfl) (by kernel_rfl) (by kernel_rfl)
theorem i_stringslite_HasPrefix.snd (k : Nat) : Snd Try.prog Jp 131 ⟨i_stringslite_HasPrefix.ps, i_stringslite_HasPrefix.rs, i_stringslite_HasPrefix.F k⟩ := snd_of E_ok i_stringslite_HasPrefix.ok mixed (fn := Try.f131) (by kernel_rfl) (by kernel_rfl) (by kernel_rfl) k
noncomputable def strings_HasPrefix.C (k : Nat) : CEs := [(131, ⟨i_stringslite_HasPrefix.ps, i_stringslite_HasPrefix.rs, i_stringslite_HasPrefix.F k⟩)]
abbrev strings_HasPrefix.ps : List Par := [⟨.str, .rd⟩, ⟨.str, .rd⟩]
abbrev strings_HasPrefix.rs : List Res := [⟨.bool, .ro, false⟩]
def strings_HasPrefix.H : Heads := []
noncomputable def strings_HasPrefix.F : Nat → ProdT (strings_HasPrefix.ps.map (·.τ)) → Option (ProdT (outs strings_HasPrefix.ps strings_HasPrefix.rs)) := evFn E strings_HasPrefix.C strings_HasPrefix.H Try.f107 strings_HasPrefix.ps strings_HasPrefix.rs
noncomputable def strings_HasPrefix.f (k : Nat) (x0 : ByteArray) (x1 : ByteArray) : Option (Bool) := strings_HasPrefix.F k (x0, x1)
theorem strings_HasPrefix.f_eq (k : Nat) (x0 : ByteArray) (x1 : ByteArray) : strings_HasPrefix.f k x0 x1 = (i_stringslite_HasPrefix.f k x0 x1).bind fun (r0 : Bool) => some r0 := by kernel_rfl
theorem strings_HasPrefix.ok (k : Nat) : CsOk Try.prog Jp (strings_HasPrefix.C k) := .cons (i_stringslite_HasPrefix.snd k) i_stringslite_HasPrefix.can <| .nil
theorem strings_HasPrefix.can : Can Try.prog 107 := can_of (fn := Try.f107) (by kernel_rfl) (by kernel_rfl) (by kernel_rfl)
theorem strings_HasPrefix.snd (k : Nat) : Snd Try.prog Jp 107 ⟨strings_HasPrefix.ps, strings_HasPrefix.rs, strings_HasPrefix.F k⟩ := snd_of E_ok strings_HasPrefix.ok mixed (fn := Try.f107) (by kernel_rfl) (by kernel_rfl) (by kernel_rfl) k
noncomputable def i_stringslite_HasSuffix.C (k : Nat) : CEs := []
abbrev i_stringslite_HasSuffix.ps : List Par := [⟨.str, .rd⟩, ⟨.str, .rd⟩]
abbrev i_stringslite_HasSuffix.rs : List Res := [⟨.bool, .ro, false⟩]
def i_stringslite_HasSuffix.H : Heads := []
noncomputable def i_stringslite_HasSuffix.F : Nat → ProdT (i_stringslite_HasSuffix.ps.map (·.τ)) → Option (ProdT (outs i_stringslite_HasSuffix.ps i_stringslite_HasSuffix.rs)) := evFn E i_stringslite_HasSuffix.C i_stringslite_HasSuffix.H Try.f132 i_stringslite_HasSuffix.ps i_stringslite_HasSuffix.rs
noncomputable def i_stringslite_HasSuffix.f (k : Nat) (x0 : ByteArray) (x1 : ByteArray) : Option (Bool) := i_stringslite_HasSuffix.F k (x0, x1)
theorem i_stringslite_HasSuffix.f_eq (k : Nat) (x0 : ByteArray) (x1 : ByteArray) : i_stringslite_HasSuffix.f k x0 x1 = ifb (decide ((x0.size : Int) ≥ (x1.size : Int))) (ifb (decide (0 ≤ (w64 ((x0.size : Int) - (x1.size : Int)))) && (decide ((w64 ((x0.size : Int) - (x1.size : Int))) ≤ (x0.size : Int)) && decide ((x0.size : Int) ≤ (x0.size : Int)))) (some ((x0.extract (w64 ((x0.size : Int) - (x1.size : Int))).toNat (x0.size : Int).toNat).toList == x1.toList)) (none)) (some false) := by kernel_rfl
theorem i_stringslite_HasSuffix.ok (k : Nat) : CsOk Try.prog Jp (i_stringslite_HasSuffix.C k) := .nil
theorem i_stringslite_HasSuffix.can : Can Try.prog 132 := can_of (fn := Try.f132) (by kernel_rfl) (by kernel_rfl) (by kernel_rfl)
theorem i_stringslite_HasSuffix.snd (k : Nat) : Snd Try.prog Jp 132 ⟨i_stringslite_HasSuffix.ps, i_stringslite_HasSuffix.rs, i_stringslite_HasSuffix.F k⟩ := snd_of E_ok i_stringslite_HasSuffix.ok mixed (fn := Try.f132) (by kernel_rfl) (by kernel_rfl) (by kernel_rfl) k
noncomputable def strings_HasSuffix.C (k : Nat) : CEs := [(132, ⟨i_stringslite_HasSuffix.ps, i_stringslite_HasSuffix.rs, i_stringslite_HasSuffix.F k⟩)]
abbrev strings_HasSuffix.ps : List Par := [⟨.str, .rd⟩, ⟨.str, .rd⟩]
abbrev strings_HasSuffix.rs : List Res := [⟨.bool, .ro, false⟩]
def strings_HasSuffix.H : Heads := []
noncomputable def strings_HasSuffix.F : Nat → ProdT (strings_HasSuffix.ps.map (·.τ)) → Option (ProdT (outs strings_HasSuffix.ps strings_HasSuffix.rs)) := evFn E strings_HasSuffix.C strings_HasSuffix.H Try.f108 strings_HasSuffix.ps strings_HasSuffix.rs
noncomputable def strings_HasSuffix.f (k : Nat) (x0 : ByteArray) (x1 : ByteArray) : Option (Bool) := strings_HasSuffix.F k (x0, x1)
theorem strings_HasSuffix.f_eq (k : Nat) (x0 : ByteArray) (x1 : ByteArray) : strings_HasSuffix.f k x0 x1 = (i_stringslite_HasSuffix.f k x0 x1).bind fun (r0 : Bool) => some r0 := by kernel_rfl
theorem strings_HasSuffix.ok (k : Nat) : CsOk Try.prog Jp (strings_HasSuffix.C k) := .cons (i_stringslite_HasSuffix.snd k) i_stringslite_HasSuffix.can <| .nil
theorem strings_HasSuffix.can : Can Try.prog 108 := can_of (fn := Try.f108) (by kernel_rfl) (by kernel_rfl) (by kernel_rfl)
theorem strings_HasSuffix.snd (k : Nat) : Snd Try.prog Jp 108 ⟨strings_HasSuffix.ps, strings_HasSuffix.rs, strings_HasSuffix.F k⟩ := snd_of E_ok strings_HasSuffix.ok mixed (fn := Try.f108) (by kernel_rfl) (by kernel_rfl) (by kernel_rfl) k
noncomputable def impl_AffixOk.C (k : Nat) : CEs := [(106, ⟨impl_upper.ps, impl_upper.rs, impl_upper.F k⟩), (105, ⟨impl_lower.ps, impl_lower.rs, impl_lower.F k⟩), (107, ⟨strings_HasPrefix.ps, strings_HasPrefix.rs, strings_HasPrefix.F k⟩), (108, ⟨strings_HasSuffix.ps, strings_HasSuffix.rs, strings_HasSuffix.F k⟩)]
abbrev impl_AffixOk.ps : List Par := [⟨t71, .rd⟩]
abbrev impl_AffixOk.rs : List Res := [⟨.bool, .ro, false⟩]
def impl_AffixOk.H : Heads := [(4, [(1, .ro), (22, (.own .ro)), (23, .ro), (24, .ro)])]
noncomputable def impl_AffixOk.F : Nat → ProdT (impl_AffixOk.ps.map (·.τ)) → Option (ProdT (outs impl_AffixOk.ps impl_AffixOk.rs)) := evFn E impl_AffixOk.C impl_AffixOk.H Try.f85 impl_AffixOk.ps impl_AffixOk.rs
noncomputable def impl_AffixOk.L4 (k k1 : Nat) (x1 : Aff) (x22 : List ByteArray) (x23 : Int) (x24 : Int) : Option (Bool) := atL E impl_AffixOk.C impl_AffixOk.H Try.f85 impl_AffixOk.ps impl_AffixOk.rs [true, true, false, true, true] k [] k1 (sh 49 [(1, .box t71 x1 .ro none), (22, .d (.row .str) x22 (.own .ro)), (23, .d (.int .i64) x23 .ro), (24, .d (.int .i64) x24 .ro)])
noncomputable def impl_AffixOk.f (k : Nat) (x0 : Aff) : Option (Bool) := impl_AffixOk.F k x0
theorem impl_AffixOk.f_eq (k : Nat) (x0 : Aff) : impl_AffixOk.f k x0 = ifb ((x0.1.size : Int) != (1 : Int)) (some false) (ifb (decide (0 ≤ (0 : Int)) && decide ((0 : Int) < (x0.1.size : Int))) ((impl_upper.f k (byteAt x0.1 (0 : Int))).bind fun (r0 : Bool) => ifb (!r0) (some false) (impl_AffixOk.L4 k k x0 [x0.2.2.1, x0.2.2.2.1, x0.2.2.2.2] ([x0.2.2.1, x0.2.2.2.1, x0.2.2.2.2].length : Int) (0 : Int))) (none)) := by kernel_rfl
theorem impl_AffixOk.L4_eq (k k1 : Nat) (x1 : Aff) (x22 : List ByteArray) (x23 : Int) (x24 : Int) : impl_AffixOk.L4 k (k1 + 1) x1 x22 x23 x24 = ifb (decide (x24 < x23)) (ifb (decide (0 ≤ x24) && decide (x24 < (x22.length : Int))) (ifb (decide (((x22.getD x24.toNat bz).size : Int) > (4 : Int))) (some false) ((impl_lower.f k1 (x22.getD x24.toNat bz)).bind fun (r1 : Bool) => ifb (!r1) (some false) (impl_AffixOk.L4 k k1 x1 x22 x23 (w64 (x24 + 1))))) (none)) (ifb x1.2.1 ((strings_HasPrefix.f k x1.2.2.2.2 x1.2.2.1).bind fun (r2 : Bool) => some r2) ((strings_HasSuffix.f k x1.2.2.2.2 x1.2.2.1).bind fun (r3 : Bool) => some r3)) := by kernel_rfl
theorem impl_AffixOk.ok (k : Nat) : CsOk Try.prog Jp (impl_AffixOk.C k) := .cons (impl_upper.snd k) impl_upper.can <| .cons (impl_lower.snd k) impl_lower.can <| .cons (strings_HasPrefix.snd k) strings_HasPrefix.can <| .cons (strings_HasSuffix.snd k) strings_HasSuffix.can <| .nil
theorem impl_AffixOk.can : Can Try.prog 85 := can_of (fn := Try.f85) (by kernel_rfl) (by kernel_rfl) (by kernel_rfl)
theorem impl_AffixOk.snd (k : Nat) : Snd Try.prog Jp 85 ⟨impl_AffixOk.ps, impl_AffixOk.rs, impl_AffixOk.F k⟩ := snd_of E_ok impl_AffixOk.ok mixed (fn := Try.f85) (by kernel_rfl) (by kernel_rfl) (by kernel_rfl) k
noncomputable def slices_Index_impl_Affix_impl_Affix.C (k : Nat) : CEs := []
abbrev slices_Index_impl_Affix_impl_Affix.ps : List Par := [⟨t23, .rd⟩, ⟨t71, .rd⟩]
abbrev slices_Index_impl_Affix_impl_Affix.rs : List Res := [⟨(.int .i64), .ro, false⟩]
def slices_Index_impl_Affix_impl_Affix.H : Heads := [(2, [(0, .ro), (3, .ro), (7, .ro), (8, .ro)])]
noncomputable def slices_Index_impl_Affix_impl_Affix.F : Nat → ProdT (slices_Index_impl_Affix_impl_Affix.ps.map (·.τ)) → Option (ProdT (outs slices_Index_impl_Affix_impl_Affix.ps slices_Index_impl_Affix_impl_Affix.rs)) := evFn E slices_Index_impl_Affix_impl_Affix.C slices_Index_impl_Affix_impl_Affix.H Try.f109 slices_Index_impl_Affix_impl_Affix.ps slices_Index_impl_Affix_impl_Affix.rs
noncomputable def slices_Index_impl_Affix_impl_Affix.L2 (k k1 : Nat) (x0 : List Aff) (x3 : Aff) (x7 : Int) (x8 : Int) : Option (Int) := atL E slices_Index_impl_Affix_impl_Affix.C slices_Index_impl_Affix_impl_Affix.H Try.f109 slices_Index_impl_Affix_impl_Affix.ps slices_Index_impl_Affix_impl_Affix.rs [true, false, true, true] k [] k1 (sh 19 [(0, .d t23 x0 .ro), (3, .box t71 x3 .ro none), (7, .d (.int .i64) x7 .ro), (8, .d (.int .i64) x8 .ro)])
noncomputable def slices_Index_impl_Affix_impl_Affix.f (k : Nat) (x0 : List Aff) (x1 : Aff) : Option (Int) := slices_Index_impl_Affix_impl_Affix.F k (x0, x1)
theorem slices_Index_impl_Affix_impl_Affix.f_eq (k : Nat) (x0 : List Aff) (x1 : Aff) : slices_Index_impl_Affix_impl_Affix.f k x0 x1 = slices_Index_impl_Affix_impl_Affix.L2 k k x0 x1 (x0.length : Int) (0 : Int) := by kernel_rfl
theorem slices_Index_impl_Affix_impl_Affix.L2_eq (k k1 : Nat) (x0 : List Aff) (x3 : Aff) (x7 : Int) (x8 : Int) : slices_Index_impl_Affix_impl_Affix.L2 k (k1 + 1) x0 x3 x7 x8 = ifb (decide (x8 < x7)) (ifb (decide (0 ≤ x8) && decide (x8 < (x0.length : Int))) (ifb ((x3.1.toList == ((x0.getD x8.toNat zA).1).toList) && ((x3.2.1 == ((x0.getD x8.toNat zA).2).1) && ((x3.2.2.1.toList == ((((x0.getD x8.toNat zA).2).2).1).toList) && ((x3.2.2.2.1.toList == (((((x0.getD x8.toNat zA).2).2).2).1).toList) && (x3.2.2.2.2.toList == (((((x0.getD x8.toNat zA).2).2).2).2).toList))))) (some x8) (slices_Index_impl_Affix_impl_Affix.L2 k k1 x0 x3 x7 (w64 (x8 + 1)))) (none)) (some (-1 : Int)) := by kernel_rfl
theorem slices_Index_impl_Affix_impl_Affix.ok (k : Nat) : CsOk Try.prog Jp (slices_Index_impl_Affix_impl_Affix.C k) := .nil
theorem slices_Index_impl_Affix_impl_Affix.can : Can Try.prog 109 := can_of (fn := Try.f109) (by kernel_rfl) (by kernel_rfl) (by kernel_rfl)
theorem slices_Index_impl_Affix_impl_Affix.snd (k : Nat) : Snd Try.prog Jp 109 ⟨slices_Index_impl_Affix_impl_Affix.ps, slices_Index_impl_Affix_impl_Affix.rs, slices_Index_impl_Affix_impl_Affix.F k⟩ := snd_of E_ok slices_Index_impl_Affix_impl_Affix.ok mixed (fn := Try.f109) (by kernel_rfl) (by kernel_rfl) (by kernel_rfl) k
noncomputable def slices_Contains_impl_Affix_impl_Affix.C (k : Nat) : CEs := [(109, ⟨slices_Index_impl_Affix_impl_Affix.ps, slices_Index_impl_Affix_impl_Affix.rs, slices_Index_impl_Affix_impl_Affix.F k⟩)]
abbrev slices_Contains_impl_Affix_impl_Affix.ps : List Par := [⟨t23, .rd⟩, ⟨t71, .rd⟩]
abbrev slices_Contains_impl_Affix_impl_Affix.rs : List Res := [⟨.bool, .ro, false⟩]
def slices_Contains_impl_Affix_impl_Affix.H : Heads := []
noncomputable def slices_Contains_impl_Affix_impl_Affix.F : Nat → ProdT (slices_Contains_impl_Affix_impl_Affix.ps.map (·.τ)) → Option (ProdT (outs slices_Contains_impl_Affix_impl_Affix.ps slices_Contains_impl_Affix_impl_Affix.rs)) := evFn E slices_Contains_impl_Affix_impl_Affix.C slices_Contains_impl_Affix_impl_Affix.H Try.f86 slices_Contains_impl_Affix_impl_Affix.ps slices_Contains_impl_Affix_impl_Affix.rs
noncomputable def slices_Contains_impl_Affix_impl_Affix.f (k : Nat) (x0 : List Aff) (x1 : Aff) : Option (Bool) := slices_Contains_impl_Affix_impl_Affix.F k (x0, x1)
theorem slices_Contains_impl_Affix_impl_Affix.f_eq (k : Nat) (x0 : List Aff) (x1 : Aff) : slices_Contains_impl_Affix_impl_Affix.f k x0 x1 = (slices_Index_impl_Affix_impl_Affix.f k x0 x1).bind fun (r0 : Int) => some (decide (r0 ≥ (0 : Int))) := by kernel_rfl
theorem slices_Contains_impl_Affix_impl_Affix.ok (k : Nat) : CsOk Try.prog Jp (slices_Contains_impl_Affix_impl_Affix.C k) := .cons (slices_Index_impl_Affix_impl_Affix.snd k) slices_Index_impl_Affix_impl_Affix.can <| .nil
theorem slices_Contains_impl_Affix_impl_Affix.can : Can Try.prog 86 := can_of (fn := Try.f86) (by kernel_rfl) (by kernel_rfl) (by kernel_rfl)
theorem slices_Contains_impl_Affix_impl_Affix.snd (k : Nat) : Snd Try.prog Jp 86 ⟨slices_Contains_impl_Affix_impl_Affix.ps, slices_Contains_impl_Affix_impl_Affix.rs, slices_Contains_impl_Affix_impl_Affix.F k⟩ := snd_of E_ok slices_Contains_impl_Affix_impl_Affix.ok mixed (fn := Try.f86) (by kernel_rfl) (by kernel_rfl) (by kernel_rfl) k
noncomputable def impl_affixesOk.C (k : Nat) : CEs := [(85, ⟨impl_AffixOk.ps, impl_AffixOk.rs, impl_AffixOk.F k⟩), (86, ⟨slices_Contains_impl_Affix_impl_Affix.ps, slices_Contains_impl_Affix_impl_Affix.rs, slices_Contains_impl_Affix_impl_Affix.F k⟩)]
abbrev impl_affixesOk.ps : List Par := [⟨t23, .rd⟩]
abbrev impl_affixesOk.rs : List Res := [⟨.bool, .ro, false⟩]
def impl_affixesOk.H : Heads := [(2, [(0, .ro), (5, .ro), (6, .ro), (7, .ro)])]
noncomputable def impl_affixesOk.F : Nat → ProdT (impl_affixesOk.ps.map (·.τ)) → Option (ProdT (outs impl_affixesOk.ps impl_affixesOk.rs)) := evFn E impl_affixesOk.C impl_affixesOk.H Try.f43 impl_affixesOk.ps impl_affixesOk.rs
noncomputable def impl_affixesOk.L2 (k k1 : Nat) (x0 : List Aff) (x5 : List Aff) (x6 : Int) (x7 : Int) : Option (Bool) := atL E impl_affixesOk.C impl_affixesOk.H Try.f43 impl_affixesOk.ps impl_affixesOk.rs [true, false, true, true] k [] k1 (sh 26 [(0, .d t23 x0 .ro), (5, .d t23 x5 .ro), (6, .d (.int .i64) x6 .ro), (7, .d (.int .i64) x7 .ro)])
noncomputable def impl_affixesOk.f (k : Nat) (x0 : List Aff) : Option (Bool) := impl_affixesOk.F k x0
theorem impl_affixesOk.f_eq (k : Nat) (x0 : List Aff) : impl_affixesOk.f k x0 = impl_affixesOk.L2 k k x0 x0 (x0.length : Int) (0 : Int) := by kernel_rfl
theorem impl_affixesOk.L2_eq (k k1 : Nat) (x0 : List Aff) (x5 : List Aff) (x6 : Int) (x7 : Int) : impl_affixesOk.L2 k (k1 + 1) x0 x5 x6 x7 = ifb (decide (x7 < x6)) (ifb (decide (0 ≤ x7) && decide (x7 < (x5.length : Int))) ((impl_AffixOk.f k1 (x5.getD x7.toNat zA)).bind fun (r0 : Bool) => ifb (!r0) (some false) (ifb (decide (0 ≤ (0 : Int)) && (decide ((0 : Int) ≤ x7) && decide (x7 ≤ (x0.length : Int)))) ((slices_Contains_impl_Affix_impl_Affix.f k1 ((x0.take x7.toNat).drop (0 : Int).toNat) (x5.getD x7.toNat zA)).bind fun (r1 : Bool) => ifb r1 (some false) (impl_affixesOk.L2 k k1 x0 x5 x6 (w64 (x7 + 1)))) (none))) (none)) (some (decide ((x0.length : Int) ≤ (8 : Int)))) := by kernel_rfl
theorem impl_affixesOk.ok (k : Nat) : CsOk Try.prog Jp (impl_affixesOk.C k) := .cons (impl_AffixOk.snd k) impl_AffixOk.can <| .cons (slices_Contains_impl_Affix_impl_Affix.snd k) slices_Contains_impl_Affix_impl_Affix.can <| .nil
theorem impl_affixesOk.can : Can Try.prog 43 := can_of (fn := Try.f43) (by kernel_rfl) (by kernel_rfl) (by kernel_rfl)
theorem impl_affixesOk.snd (k : Nat) : Snd Try.prog Jp 43 ⟨impl_affixesOk.ps, impl_affixesOk.rs, impl_affixesOk.F k⟩ := snd_of E_ok impl_affixesOk.ok mixed (fn := Try.f43) (by kernel_rfl) (by kernel_rfl) (by kernel_rfl) k
noncomputable def impl_within.C (k : Nat) : CEs := []
abbrev impl_within.ps : List Par := [⟨(.int .i64), .rd⟩, ⟨(.int .i64), .rd⟩, ⟨(.int .i64), .rd⟩]
abbrev impl_within.rs : List Res := [⟨.bool, .ro, false⟩]
def impl_within.H : Heads := []
noncomputable def impl_within.F : Nat → ProdT (impl_within.ps.map (·.τ)) → Option (ProdT (outs impl_within.ps impl_within.rs)) := evFn E impl_within.C impl_within.H Try.f104 impl_within.ps impl_within.rs
noncomputable def impl_within.f (k : Nat) (x0 : Int) (x1 : Int) (x2 : Int) : Option (Bool) := impl_within.F k (x0, x1, x2)
theorem impl_within.f_eq (k : Nat) (x0 : Int) (x1 : Int) (x2 : Int) : impl_within.f k x0 x1 x2 = ifb (decide (x0 ≥ x1)) (some (decide (x0 ≤ x2))) (some false) := by kernel_rfl
theorem impl_within.ok (k : Nat) : CsOk Try.prog Jp (impl_within.C k) := .nil
theorem impl_within.can : Can Try.prog 104 := can_of (fn := Try.f104) (by kernel_rfl) (by kernel_rfl) (by kernel_rfl)
theorem impl_within.snd (k : Nat) : Snd Try.prog Jp 104 ⟨impl_within.ps, impl_within.rs, impl_within.F k⟩ := snd_of E_ok impl_within.ok mixed (fn := Try.f104) (by kernel_rfl) (by kernel_rfl) (by kernel_rfl) k
noncomputable def impl_WordOk.C (k : Nat) : CEs := [(105, ⟨impl_lower.ps, impl_lower.rs, impl_lower.F k⟩), (104, ⟨impl_within.ps, impl_within.rs, impl_within.F k⟩)]
abbrev impl_WordOk.ps : List Par := [⟨.str, .rd⟩]
abbrev impl_WordOk.rs : List Res := [⟨.bool, .ro, false⟩]
def impl_WordOk.H : Heads := []
noncomputable def impl_WordOk.F : Nat → ProdT (impl_WordOk.ps.map (·.τ)) → Option (ProdT (outs impl_WordOk.ps impl_WordOk.rs)) := evFn E impl_WordOk.C impl_WordOk.H Try.f83 impl_WordOk.ps impl_WordOk.rs
noncomputable def impl_WordOk.f (k : Nat) (x0 : ByteArray) : Option (Bool) := impl_WordOk.F k x0
theorem impl_WordOk.f_eq (k : Nat) (x0 : ByteArray) : impl_WordOk.f k x0 = (impl_within.f k (x0.size : Int) (1 : Int) (12 : Int)).bind fun (r0 : Bool) => ifb r0 ((impl_lower.f k x0).bind fun (r1 : Bool) => some r1) (some false) := by kernel_rfl
theorem impl_WordOk.ok (k : Nat) : CsOk Try.prog Jp (impl_WordOk.C k) := .cons (impl_lower.snd k) impl_lower.can <| .cons (impl_within.snd k) impl_within.can <| .nil
theorem impl_WordOk.can : Can Try.prog 83 := can_of (fn := Try.f83) (by kernel_rfl) (by kernel_rfl) (by kernel_rfl)
theorem impl_WordOk.snd (k : Nat) : Snd Try.prog Jp 83 ⟨impl_WordOk.ps, impl_WordOk.rs, impl_WordOk.F k⟩ := snd_of E_ok impl_WordOk.ok mixed (fn := Try.f83) (by kernel_rfl) (by kernel_rfl) (by kernel_rfl) k
noncomputable def impl_entryOk.C (k : Nat) : CEs := [(106, ⟨impl_upper.ps, impl_upper.rs, impl_upper.F k⟩), (83, ⟨impl_WordOk.ps, impl_WordOk.rs, impl_WordOk.F k⟩)]
abbrev impl_entryOk.ps : List Par := [⟨t37, .rd⟩]
abbrev impl_entryOk.rs : List Res := [⟨.bool, .ro, false⟩]
def impl_entryOk.H : Heads := [(2, [(1, .ro), (6, .ro), (7, .ro)])]
noncomputable def impl_entryOk.F : Nat → ProdT (impl_entryOk.ps.map (·.τ)) → Option (ProdT (outs impl_entryOk.ps impl_entryOk.rs)) := evFn E impl_entryOk.C impl_entryOk.H Try.f84 impl_entryOk.ps impl_entryOk.rs
noncomputable def impl_entryOk.L2 (k k1 : Nat) (x1 : ByteArray × ByteArray) (x6 : Int) (x7 : Int) : Option (Bool) := atL E impl_entryOk.C impl_entryOk.H Try.f84 impl_entryOk.ps impl_entryOk.rs [true, false, true, true] k [] k1 (sh 42 [(1, .box t37 x1 .ro none), (6, .d (.int .i64) x6 .ro), (7, .d (.int .i64) x7 .ro)])
noncomputable def impl_entryOk.f (k : Nat) (x0 : ByteArray × ByteArray) : Option (Bool) := impl_entryOk.F k x0
theorem impl_entryOk.f_eq (k : Nat) (x0 : ByteArray × ByteArray) : impl_entryOk.f k x0 = impl_entryOk.L2 k k x0 (x0.2.size : Int) (0 : Int) := by kernel_rfl
theorem impl_entryOk.L2_eq (k k1 : Nat) (x1 : ByteArray × ByteArray) (x6 : Int) (x7 : Int) : impl_entryOk.L2 k (k1 + 1) x1 x6 x7 = ifb (decide (x7 < x6)) (ifb (decide (0 ≤ x7) && decide (x7 < (x1.2.size : Int))) ((impl_upper.f k1 (byteAt x1.2 x7)).bind fun (r0 : Bool) => ifb (!r0) (some false) (ifb (decide (x7 > 0)) (ifb (decide (0 ≤ (w64 (x7 - 1))) && decide ((w64 (x7 - 1)) < (x1.2.size : Int))) (ifb (decide (0 ≤ x7) && decide (x7 < (x1.2.size : Int))) (ifb (decide ((byteAt x1.2 (w64 (x7 - 1))) ≥ (byteAt x1.2 x7))) (some false) (impl_entryOk.L2 k k1 x1 x6 (w64 (x7 + 1)))) (none)) (none)) (impl_entryOk.L2 k k1 x1 x6 (w64 (x7 + 1))))) (none)) ((impl_WordOk.f k x1.1).bind fun (r1 : Bool) => ifb r1 (some (decide ((x1.2.size : Int) ≤ (4 : Int)))) (some false)) := by kernel_rfl
theorem impl_entryOk.ok (k : Nat) : CsOk Try.prog Jp (impl_entryOk.C k) := .cons (impl_upper.snd k) impl_upper.can <| .cons (impl_WordOk.snd k) impl_WordOk.can <| .nil
theorem impl_entryOk.can : Can Try.prog 84 := can_of (fn := Try.f84) (by kernel_rfl) (by kernel_rfl) (by kernel_rfl)
theorem impl_entryOk.snd (k : Nat) : Snd Try.prog Jp 84 ⟨impl_entryOk.ps, impl_entryOk.rs, impl_entryOk.F k⟩ := snd_of E_ok impl_entryOk.ok mixed (fn := Try.f84) (by kernel_rfl) (by kernel_rfl) (by kernel_rfl) k
noncomputable def impl_entriesOk.C (k : Nat) : CEs := [(84, ⟨impl_entryOk.ps, impl_entryOk.rs, impl_entryOk.F k⟩)]
abbrev impl_entriesOk.ps : List Par := [⟨t24, .rd⟩]
abbrev impl_entriesOk.rs : List Res := [⟨.bool, .ro, false⟩]
def impl_entriesOk.H : Heads := [(2, [(0, .ro), (5, .ro), (6, .ro), (7, .ro)])]
noncomputable def impl_entriesOk.F : Nat → ProdT (impl_entriesOk.ps.map (·.τ)) → Option (ProdT (outs impl_entriesOk.ps impl_entriesOk.rs)) := evFn E impl_entriesOk.C impl_entriesOk.H Try.f42 impl_entriesOk.ps impl_entriesOk.rs
noncomputable def impl_entriesOk.L2 (k k1 : Nat) (x0 : List En) (x5 : List En) (x6 : Int) (x7 : Int) : Option (Bool) := atL E impl_entriesOk.C impl_entriesOk.H Try.f42 impl_entriesOk.ps impl_entriesOk.rs [true, false, true, true] k [] k1 (sh 34 [(0, .d t24 x0 .ro), (5, .d t24 x5 .ro), (6, .d (.int .i64) x6 .ro), (7, .d (.int .i64) x7 .ro)])
noncomputable def impl_entriesOk.f (k : Nat) (x0 : List En) : Option (Bool) := impl_entriesOk.F k x0
theorem impl_entriesOk.f_eq (k : Nat) (x0 : List En) : impl_entriesOk.f k x0 = impl_entriesOk.L2 k k x0 x0 (x0.length : Int) (0 : Int) := by kernel_rfl
theorem impl_entriesOk.L2_eq (k k1 : Nat) (x0 : List En) (x5 : List En) (x6 : Int) (x7 : Int) : impl_entriesOk.L2 k (k1 + 1) x0 x5 x6 x7 = ifb (decide (x7 < x6)) (ifb (decide (0 ≤ x7) && decide (x7 < (x5.length : Int))) ((impl_entryOk.f k1 (x5.getD x7.toNat zE)).bind fun (r0 : Bool) => ifb (!r0) (some false) (ifb (decide (x7 > 0)) (ifb (decide (0 ≤ (w64 (x7 - 1))) && decide ((w64 (x7 - 1)) < (x0.length : Int))) (ifb (!(Op.bytesLess ((x0.getD ((w64 (x7 - 1)).toNat) zE).1).toList ((x5.getD x7.toNat zE).1).toList)) (some false) (impl_entriesOk.L2 k k1 x0 x5 x6 (w64 (x7 + 1)))) (none)) (impl_entriesOk.L2 k k1 x0 x5 x6 (w64 (x7 + 1))))) (none)) (some (decide ((x0.length : Int) ≤ (24 : Int)))) := by kernel_rfl
theorem impl_entriesOk.ok (k : Nat) : CsOk Try.prog Jp (impl_entriesOk.C k) := .cons (impl_entryOk.snd k) impl_entryOk.can <| .nil
theorem impl_entriesOk.can : Can Try.prog 42 := can_of (fn := Try.f42) (by kernel_rfl) (by kernel_rfl) (by kernel_rfl)
theorem impl_entriesOk.snd (k : Nat) : Snd Try.prog Jp 42 ⟨impl_entriesOk.ps, impl_entriesOk.rs, impl_entriesOk.F k⟩ := snd_of E_ok impl_entriesOk.ok mixed (fn := Try.f42) (by kernel_rfl) (by kernel_rfl) (by kernel_rfl) k
noncomputable def impl_BookOk.C (k : Nat) : CEs := [(43, ⟨impl_affixesOk.ps, impl_affixesOk.rs, impl_affixesOk.F k⟩), (42, ⟨impl_entriesOk.ps, impl_entriesOk.rs, impl_entriesOk.F k⟩)]
abbrev impl_BookOk.ps : List Par := [⟨t25, .rd⟩]
abbrev impl_BookOk.rs : List Res := [⟨.bool, .ro, false⟩]
def impl_BookOk.H : Heads := []
noncomputable def impl_BookOk.F : Nat → ProdT (impl_BookOk.ps.map (·.τ)) → Option (ProdT (outs impl_BookOk.ps impl_BookOk.rs)) := evFn E impl_BookOk.C impl_BookOk.H Try.f14 impl_BookOk.ps impl_BookOk.rs
noncomputable def impl_BookOk.f (k : Nat) (x0 : Book) : Option (Bool) := impl_BookOk.F k x0
theorem impl_BookOk.f_eq (k : Nat) (x0 : Book) : impl_BookOk.f k x0 = (impl_affixesOk.f k x0.1).bind fun (r0 : Bool) => ifb r0 ((impl_entriesOk.f k x0.2).bind fun (r1 : Bool) => some r1) (some false) := by kernel_rfl
theorem impl_BookOk.ok (k : Nat) : CsOk Try.prog Jp (impl_BookOk.C k) := .cons (impl_affixesOk.snd k) impl_affixesOk.can <| .cons (impl_entriesOk.snd k) impl_entriesOk.can <| .nil
theorem impl_BookOk.can : Can Try.prog 14 := can_of (fn := Try.f14) (by kernel_rfl) (by kernel_rfl) (by kernel_rfl)
theorem impl_BookOk.snd (k : Nat) : Snd Try.prog Jp 14 ⟨impl_BookOk.ps, impl_BookOk.rs, impl_BookOk.F k⟩ := snd_of E_ok impl_BookOk.ok mixed (fn := Try.f14) (by kernel_rfl) (by kernel_rfl) (by kernel_rfl) k
noncomputable def impl_wordsOk.C (k : Nat) : CEs := [(83, ⟨impl_WordOk.ps, impl_WordOk.rs, impl_WordOk.F k⟩)]
abbrev impl_wordsOk.ps : List Par := [⟨(.row .str), .rd⟩, ⟨(.int .i64), .rd⟩]
abbrev impl_wordsOk.rs : List Res := [⟨.bool, .ro, false⟩]
def impl_wordsOk.H : Heads := [(2, [(0, .ro), (1, .ro), (7, .ro), (8, .ro), (9, .ro)])]
noncomputable def impl_wordsOk.F : Nat → ProdT (impl_wordsOk.ps.map (·.τ)) → Option (ProdT (outs impl_wordsOk.ps impl_wordsOk.rs)) := evFn E impl_wordsOk.C impl_wordsOk.H Try.f41 impl_wordsOk.ps impl_wordsOk.rs
noncomputable def impl_wordsOk.L2 (k k1 : Nat) (x0 : List ByteArray) (x1 : Int) (x7 : List ByteArray) (x8 : Int) (x9 : Int) : Option (Bool) := atL E impl_wordsOk.C impl_wordsOk.H Try.f41 impl_wordsOk.ps impl_wordsOk.rs [true, false, true, true] k [] k1 (sh 35 [(0, .d (.row .str) x0 .ro), (1, .d (.int .i64) x1 .ro), (7, .d (.row .str) x7 .ro), (8, .d (.int .i64) x8 .ro), (9, .d (.int .i64) x9 .ro)])
noncomputable def impl_wordsOk.f (k : Nat) (x0 : List ByteArray) (x1 : Int) : Option (Bool) := impl_wordsOk.F k (x0, x1)
theorem impl_wordsOk.f_eq (k : Nat) (x0 : List ByteArray) (x1 : Int) : impl_wordsOk.f k x0 x1 = impl_wordsOk.L2 k k x0 x1 x0 (x0.length : Int) (0 : Int) := by kernel_rfl
theorem impl_wordsOk.L2_eq (k k1 : Nat) (x0 : List ByteArray) (x1 : Int) (x7 : List ByteArray) (x8 : Int) (x9 : Int) : impl_wordsOk.L2 k (k1 + 1) x0 x1 x7 x8 x9 = ifb (decide (x9 < x8)) (ifb (decide (0 ≤ x9) && decide (x9 < (x7.length : Int))) ((impl_WordOk.f k1 (x7.getD x9.toNat bz)).bind fun (r0 : Bool) => ifb (!r0) (some false) (ifb (decide (x9 > 0)) (ifb (decide (0 ≤ (w64 (x9 - 1))) && decide ((w64 (x9 - 1)) < (x0.length : Int))) (ifb (!(Op.bytesLess (x0.getD ((w64 (x9 - 1)).toNat) bz).toList (x7.getD x9.toNat bz).toList)) (some false) (impl_wordsOk.L2 k k1 x0 x1 x7 x8 (w64 (x9 + 1)))) (none)) (impl_wordsOk.L2 k k1 x0 x1 x7 x8 (w64 (x9 + 1))))) (none)) (some (decide ((x0.length : Int) ≤ x1))) := by kernel_rfl
theorem impl_wordsOk.ok (k : Nat) : CsOk Try.prog Jp (impl_wordsOk.C k) := .cons (impl_WordOk.snd k) impl_WordOk.can <| .nil
theorem impl_wordsOk.can : Can Try.prog 41 := can_of (fn := Try.f41) (by kernel_rfl) (by kernel_rfl) (by kernel_rfl)
theorem impl_wordsOk.snd (k : Nat) : Snd Try.prog Jp 41 ⟨impl_wordsOk.ps, impl_wordsOk.rs, impl_wordsOk.F k⟩ := snd_of E_ok impl_wordsOk.ok mixed (fn := Try.f41) (by kernel_rfl) (by kernel_rfl) (by kernel_rfl) k
noncomputable def impl_DeltaOk.C (k : Nat) : CEs := [(34, ⟨impl_entryAt.ps, impl_entryAt.rs, impl_entryAt.F k⟩), (43, ⟨impl_affixesOk.ps, impl_affixesOk.rs, impl_affixesOk.F k⟩), (42, ⟨impl_entriesOk.ps, impl_entriesOk.rs, impl_entriesOk.F k⟩), (41, ⟨impl_wordsOk.ps, impl_wordsOk.rs, impl_wordsOk.F k⟩)]
abbrev impl_DeltaOk.ps : List Par := [⟨t28, .rd⟩]
abbrev impl_DeltaOk.rs : List Res := [⟨.bool, .ro, false⟩]
def impl_DeltaOk.H : Heads := [(4, [(1, .ro), (33, .ro), (34, .ro), (35, .ro)])]
noncomputable def impl_DeltaOk.F : Nat → ProdT (impl_DeltaOk.ps.map (·.τ)) → Option (ProdT (outs impl_DeltaOk.ps impl_DeltaOk.rs)) := evFn E impl_DeltaOk.C impl_DeltaOk.H Try.f10 impl_DeltaOk.ps impl_DeltaOk.rs
noncomputable def impl_DeltaOk.L4 (k k1 : Nat) (x1 : Delta) (x33 : List ByteArray) (x34 : Int) (x35 : Int) : Option (Bool) := atL E impl_DeltaOk.C impl_DeltaOk.H Try.f10 impl_DeltaOk.ps impl_DeltaOk.rs [true, true, false, true, true] k [] k1 (sh 45 [(1, .box t28 x1 .ro none), (33, .d (.row .str) x33 .ro), (34, .d (.int .i64) x34 .ro), (35, .d (.int .i64) x35 .ro)])
noncomputable def impl_DeltaOk.f (k : Nat) (x0 : Delta) : Option (Bool) := impl_DeltaOk.F k x0
theorem impl_DeltaOk.f_eq (k : Nat) (x0 : Delta) : impl_DeltaOk.f k x0 = (impl_wordsOk.f k x0.1 (24 : Int)).bind fun (r0 : Bool) => ifb (!r0) (some false) ((impl_entriesOk.f k x0.2.1).bind fun (r1 : Bool) => ifb (!r1) (some false) ((impl_affixesOk.f k x0.2.2.2).bind fun (r2 : Bool) => ifb (!r2) (some false) (ifb (!x0.2.2.1) (ifb (decide ((x0.2.2.2.length : Int) > 0)) (some false) (impl_DeltaOk.L4 k k x0 x0.1 (x0.1.length : Int) (0 : Int))) (impl_DeltaOk.L4 k k x0 x0.1 (x0.1.length : Int) (0 : Int))))) := by kernel_rfl
theorem impl_DeltaOk.L4_eq (k k1 : Nat) (x1 : Delta) (x33 : List ByteArray) (x34 : Int) (x35 : Int) : impl_DeltaOk.L4 k (k1 + 1) x1 x33 x34 x35 = ifb (decide (x35 < x34)) (ifb (decide (0 ≤ x35) && decide (x35 < (x33.length : Int))) ((impl_entryAt.f k1 x1.2.1 (x33.getD x35.toNat bz)).bind fun (r3 : Int) => ifb (decide (r3 ≥ (0 : Int))) (some false) (impl_DeltaOk.L4 k k1 x1 x33 x34 (w64 (x35 + 1)))) (none)) (some true) := by kernel_rfl
theorem impl_DeltaOk.ok (k : Nat) : CsOk Try.prog Jp (impl_DeltaOk.C k) := .cons (impl_entryAt.snd k) impl_entryAt.can <| .cons (impl_affixesOk.snd k) impl_affixesOk.can <| .cons (impl_entriesOk.snd k) impl_entriesOk.can <| .cons (impl_wordsOk.snd k) impl_wordsOk.can <| .nil
theorem impl_DeltaOk.can : Can Try.prog 10 := can_of (fn := Try.f10) (by kernel_rfl) (by kernel_rfl) (by kernel_rfl)
theorem impl_DeltaOk.snd (k : Nat) : Snd Try.prog Jp 10 ⟨impl_DeltaOk.ps, impl_DeltaOk.rs, impl_DeltaOk.F k⟩ := snd_of E_ok impl_DeltaOk.ok mixed (fn := Try.f10) (by kernel_rfl) (by kernel_rfl) (by kernel_rfl) k
noncomputable def impl_cloneBook.C (k : Nat) : CEs := []
abbrev impl_cloneBook.ps : List Par := [⟨t25, .rd⟩]
abbrev impl_cloneBook.rs : List Res := [⟨t25, (.pr (.own .ro) (.own .ro)), false⟩]
def impl_cloneBook.H : Heads := []
noncomputable def impl_cloneBook.F : Nat → ProdT (impl_cloneBook.ps.map (·.τ)) → Option (ProdT (outs impl_cloneBook.ps impl_cloneBook.rs)) := evFn E impl_cloneBook.C impl_cloneBook.H Try.f35 impl_cloneBook.ps impl_cloneBook.rs
noncomputable def impl_cloneBook.f (k : Nat) (x0 : Book) : Option Book := impl_cloneBook.F k x0
theorem impl_cloneBook.f_eq (k : Nat) (x0 : Book) : impl_cloneBook.f k x0 = ifb (decide ((([] : List Aff).length + x0.1.length) * 72 ≤ rowMax)) (ifb (decide ((([] : List En).length + x0.2.length) * 32 ≤ rowMax)) (some ((([] : List Aff) ++ x0.1), (([] : List En) ++ x0.2))) (none)) (none) := by kernel_rfl
theorem impl_cloneBook.ok (k : Nat) : CsOk Try.prog Jp (impl_cloneBook.C k) := .nil
theorem impl_cloneBook.can : Can Try.prog 35 := can_of (fn := Try.f35) (by kernel_rfl) (by kernel_rfl) (by kernel_rfl)
theorem impl_cloneBook.snd (k : Nat) : Snd Try.prog Jp 35 ⟨impl_cloneBook.ps, impl_cloneBook.rs, impl_cloneBook.F k⟩ := snd_of E_ok impl_cloneBook.ok mixed (fn := Try.f35) (by kernel_rfl) (by kernel_rfl) (by kernel_rfl) k
end Go.Proofs.Ytabindnaedchgaa.Rf
