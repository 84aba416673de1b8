/- Functions of the program, told plainly, and their contracts: part A0. -/
import Derived.Test.YtabindnaedchgaaRtJ
namespace Go.Proofs.Ytabindnaedchgaa.Rf
open Go Go.RowKit
set_option linter.unusedVariables false
noncomputable def laws_szAffix.C (k : Nat) : CEs := []
abbrev laws_szAffix.ps : List Par := [⟨t71, .rd⟩, ⟨(.int .i64), .rd⟩]
abbrev laws_szAffix.rs : List Res := [⟨(.int .i64), .ro, false⟩]
def laws_szAffix.H : Heads := []
noncomputable def laws_szAffix.F : Nat → ProdT (laws_szAffix.ps.map (·.τ)) → Option (ProdT (outs laws_szAffix.ps laws_szAffix.rs)) := evFn E laws_szAffix.C laws_szAffix.H Try.f90 laws_szAffix.ps laws_szAffix.rs
noncomputable def laws_szAffix.f (k : Nat) (x0 : Aff) (x1 : Int) : Option (Int) := laws_szAffix.F k (x0, x1)
theorem laws_szAffix.f_eq (k : Nat) (x0 : Aff) (x1 : Int) : laws_szAffix.f k x0 x1 = ifb (decide ((w64 (x1 - (x0.1.size : Int))) < 0)) (some (-1 : Int)) (ifb (decide ((w64 ((w64 (x1 - (x0.1.size : Int))) - (x0.2.2.1.size : Int))) < 0)) (some (-1 : Int)) (ifb (decide ((w64 ((w64 ((w64 (x1 - (x0.1.size : Int))) - (x0.2.2.1.size : Int))) - (x0.2.2.2.1.size : Int))) < 0)) (some (-1 : Int)) (ifb (decide ((w64 ((w64 ((w64 ((w64 (x1 - (x0.1.size : Int))) - (x0.2.2.1.size : Int))) - (x0.2.2.2.1.size : Int))) - (x0.2.2.2.2.size : Int))) < 0)) (some (-1 : Int)) (some (w64 ((w64 ((w64 ((w64 (x1 - (x0.1.size : Int))) - (x0.2.2.1.size : Int))) - (x0.2.2.2.1.size : Int))) - (x0.2.2.2.2.size : Int))))))) := by kernel_rfl
theorem laws_szAffix.ok (k : Nat) : CsOk Try.prog Jp (laws_szAffix.C k) := .nil
theorem laws_szAffix.can : Can Try.prog 90 := can_of (fn := Try.f90) (by kernel_rfl) (by kernel_rfl) (by kernel_rfl)
theorem laws_szAffix.snd (k : Nat) : Snd Try.prog Jp 90 ⟨laws_szAffix.ps, laws_szAffix.rs, laws_szAffix.F k⟩ := snd_of E_ok laws_szAffix.ok mixed (fn := Try.f90) (by kernel_rfl) (by kernel_rfl) (by kernel_rfl) k
noncomputable def laws_szAffixS.C (k : Nat) : CEs := [(90, ⟨laws_szAffix.ps, laws_szAffix.rs, laws_szAffix.F k⟩)]
abbrev laws_szAffixS.ps : List Par := [⟨t23, .rd⟩, ⟨(.int .i64), .rd⟩]
abbrev laws_szAffixS.rs : List Res := [⟨(.int .i64), .ro, false⟩]
def laws_szAffixS.H : Heads := [(5, [(0, .ro), (1, .ro), (5, .ro)])]
noncomputable def laws_szAffixS.F : Nat → ProdT (laws_szAffixS.ps.map (·.τ)) → Option (ProdT (outs laws_szAffixS.ps laws_szAffixS.rs)) := evFn E laws_szAffixS.C laws_szAffixS.H Try.f48 laws_szAffixS.ps laws_szAffixS.rs
noncomputable def laws_szAffixS.L5 (k k1 : Nat) (x0 : List Aff) (x1 : Int) (x5 : Int) : Option (Int) := atL E laws_szAffixS.C laws_szAffixS.H Try.f48 laws_szAffixS.ps laws_szAffixS.rs [true, true, true, false, true, true] k [] k1 (sh 27 [(0, .d t23 x0 .ro), (1, .d (.int .i64) x1 .ro), (5, .d (.int .i64) x5 .ro)])
noncomputable def laws_szAffixS.f (k : Nat) (x0 : List Aff) (x1 : Int) : Option (Int) := laws_szAffixS.F k (x0, x1)
theorem laws_szAffixS.f_eq (k : Nat) (x0 : List Aff) (x1 : Int) : laws_szAffixS.f k x0 x1 = ifb (decide ((w64 (x1 - (x0.length : Int))) < 0)) (some (-1 : Int)) (laws_szAffixS.L5 k k x0 (w64 (x1 - (x0.length : Int))) (0 : Int)) := by kernel_rfl
theorem laws_szAffixS.L5_eq (k k1 : Nat) (x0 : List Aff) (x1 : Int) (x5 : Int) : laws_szAffixS.L5 k (k1 + 1) x0 x1 x5 = ifb (decide (x5 < (x0.length : Int))) (ifb (decide (0 ≤ x5) && decide (x5 < (x0.length : Int))) ((laws_szAffix.f k1 (x0.getD x5.toNat zA) x1).bind fun (r0 : Int) => ifb (decide (r0 < 0)) (some (-1 : Int)) (laws_szAffixS.L5 k k1 x0 r0 (w64 (x5 + 1)))) (none)) (some x1) := by kernel_rfl
theorem laws_szAffixS.ok (k : Nat) : CsOk Try.prog Jp (laws_szAffixS.C k) := .cons (laws_szAffix.snd k) laws_szAffix.can <| .nil
theorem laws_szAffixS.can : Can Try.prog 48 := can_of (fn := Try.f48) (by kernel_rfl) (by kernel_rfl) (by kernel_rfl)
theorem laws_szAffixS.snd (k : Nat) : Snd Try.prog Jp 48 ⟨laws_szAffixS.ps, laws_szAffixS.rs, laws_szAffixS.F k⟩ := snd_of E_ok laws_szAffixS.ok mixed (fn := Try.f48) (by kernel_rfl) (by kernel_rfl) (by kernel_rfl) k
noncomputable def laws_szEntry.C (k : Nat) : CEs := []
abbrev laws_szEntry.ps : List Par := [⟨t37, .rd⟩, ⟨(.int .i64), .rd⟩]
abbrev laws_szEntry.rs : List Res := [⟨(.int .i64), .ro, false⟩]
def laws_szEntry.H : Heads := []
noncomputable def laws_szEntry.F : Nat → ProdT (laws_szEntry.ps.map (·.τ)) → Option (ProdT (outs laws_szEntry.ps laws_szEntry.rs)) := evFn E laws_szEntry.C laws_szEntry.H Try.f91 laws_szEntry.ps laws_szEntry.rs
noncomputable def laws_szEntry.f (k : Nat) (x0 : ByteArray × ByteArray) (x1 : Int) : Option (Int) := laws_szEntry.F k (x0, x1)
theorem laws_szEntry.f_eq (k : Nat) (x0 : ByteArray × ByteArray) (x1 : Int) : laws_szEntry.f k x0 x1 = ifb (decide ((w64 (x1 - (x0.1.size : Int))) < 0)) (some (-1 : Int)) (ifb (decide ((w64 ((w64 (x1 - (x0.1.size : Int))) - (x0.2.size : Int))) < 0)) (some (-1 : Int)) (some (w64 ((w64 (x1 - (x0.1.size : Int))) - (x0.2.size : Int))))) := by kernel_rfl
theorem laws_szEntry.ok (k : Nat) : CsOk Try.prog Jp (laws_szEntry.C k) := .nil
theorem laws_szEntry.can : Can Try.prog 91 := can_of (fn := Try.f91) (by kernel_rfl) (by kernel_rfl) (by kernel_rfl)
theorem laws_szEntry.snd (k : Nat) : Snd Try.prog Jp 91 ⟨laws_szEntry.ps, laws_szEntry.rs, laws_szEntry.F k⟩ := snd_of E_ok laws_szEntry.ok mixed (fn := Try.f91) (by kernel_rfl) (by kernel_rfl) (by kernel_rfl) k
noncomputable def laws_szEntryS.C (k : Nat) : CEs := [(91, ⟨laws_szEntry.ps, laws_szEntry.rs, laws_szEntry.F k⟩)]
abbrev laws_szEntryS.ps : List Par := [⟨t24, .rd⟩, ⟨(.int .i64), .rd⟩]
abbrev laws_szEntryS.rs : List Res := [⟨(.int .i64), .ro, false⟩]
def laws_szEntryS.H : Heads := [(5, [(0, .ro), (1, .ro), (5, .ro)])]
noncomputable def laws_szEntryS.F : Nat → ProdT (laws_szEntryS.ps.map (·.τ)) → Option (ProdT (outs laws_szEntryS.ps laws_szEntryS.rs)) := evFn E laws_szEntryS.C laws_szEntryS.H Try.f49 laws_szEntryS.ps laws_szEntryS.rs
noncomputable def laws_szEntryS.L5 (k k1 : Nat) (x0 : List En) (x1 : Int) (x5 : Int) : Option (Int) := atL E laws_szEntryS.C laws_szEntryS.H Try.f49 laws_szEntryS.ps laws_szEntryS.rs [true, true, true, false, true, true] k [] k1 (sh 27 [(0, .d t24 x0 .ro), (1, .d (.int .i64) x1 .ro), (5, .d (.int .i64) x5 .ro)])
noncomputable def laws_szEntryS.f (k : Nat) (x0 : List En) (x1 : Int) : Option (Int) := laws_szEntryS.F k (x0, x1)
theorem laws_szEntryS.f_eq (k : Nat) (x0 : List En) (x1 : Int) : laws_szEntryS.f k x0 x1 = ifb (decide ((w64 (x1 - (x0.length : Int))) < 0)) (some (-1 : Int)) (laws_szEntryS.L5 k k x0 (w64 (x1 - (x0.length : Int))) (0 : Int)) := by kernel_rfl
theorem laws_szEntryS.L5_eq (k k1 : Nat) (x0 : List En) (x1 : Int) (x5 : Int) : laws_szEntryS.L5 k (k1 + 1) x0 x1 x5 = ifb (decide (x5 < (x0.length : Int))) (ifb (decide (0 ≤ x5) && decide (x5 < (x0.length : Int))) ((laws_szEntry.f k1 (x0.getD x5.toNat zE) x1).bind fun (r0 : Int) => ifb (decide (r0 < 0)) (some (-1 : Int)) (laws_szEntryS.L5 k k1 x0 r0 (w64 (x5 + 1)))) (none)) (some x1) := by kernel_rfl
theorem laws_szEntryS.ok (k : Nat) : CsOk Try.prog Jp (laws_szEntryS.C k) := .cons (laws_szEntry.snd k) laws_szEntry.can <| .nil
theorem laws_szEntryS.can : Can Try.prog 49 := can_of (fn := Try.f49) (by kernel_rfl) (by kernel_rfl) (by kernel_rfl)
theorem laws_szEntryS.snd (k : Nat) : Snd Try.prog Jp 49 ⟨laws_szEntryS.ps, laws_szEntryS.rs, laws_szEntryS.F k⟩ := snd_of E_ok laws_szEntryS.ok mixed (fn := Try.f49) (by kernel_rfl) (by kernel_rfl) (by kernel_rfl) k
noncomputable def laws_szBook.C (k : Nat) : CEs := [(48, ⟨laws_szAffixS.ps, laws_szAffixS.rs, laws_szAffixS.F k⟩), (49, ⟨laws_szEntryS.ps, laws_szEntryS.rs, laws_szEntryS.F k⟩)]
abbrev laws_szBook.ps : List Par := [⟨t25, .rd⟩, ⟨(.int .i64), .rd⟩]
abbrev laws_szBook.rs : List Res := [⟨(.int .i64), .ro, false⟩]
def laws_szBook.H : Heads := []
noncomputable def laws_szBook.F : Nat → ProdT (laws_szBook.ps.map (·.τ)) → Option (ProdT (outs laws_szBook.ps laws_szBook.rs)) := evFn E laws_szBook.C laws_szBook.H Try.f15 laws_szBook.ps laws_szBook.rs
noncomputable def laws_szBook.f (k : Nat) (x0 : Book) (x1 : Int) : Option (Int) := laws_szBook.F k (x0, x1)
theorem laws_szBook.f_eq (k : Nat) (x0 : Book) (x1 : Int) : laws_szBook.f k x0 x1 = (laws_szAffixS.f k x0.1 x1).bind fun (r0 : Int) => ifb (decide (r0 < 0)) (some (-1 : Int)) ((laws_szEntryS.f k x0.2 r0).bind fun (r1 : Int) => ifb (decide (r1 < 0)) (some (-1 : Int)) (some r1)) := by kernel_rfl
theorem laws_szBook.ok (k : Nat) : CsOk Try.prog Jp (laws_szBook.C k) := .cons (laws_szAffixS.snd k) laws_szAffixS.can <| .cons (laws_szEntryS.snd k) laws_szEntryS.can <| .nil
theorem laws_szBook.can : Can Try.prog 15 := can_of (fn := Try.f15) (by kernel_rfl) (by kernel_rfl) (by kernel_rfl)
theorem laws_szBook.snd (k : Nat) : Snd Try.prog Jp 15 ⟨laws_szBook.ps, laws_szBook.rs, laws_szBook.F k⟩ := snd_of E_ok laws_szBook.ok mixed (fn := Try.f15) (by kernel_rfl) (by kernel_rfl) (by kernel_rfl) k
noncomputable def laws_szStringS.C (k : Nat) : CEs := []
abbrev laws_szStringS.ps : List Par := [⟨(.row .str), .rd⟩, ⟨(.int .i64), .rd⟩]
abbrev laws_szStringS.rs : List Res := [⟨(.int .i64), .ro, false⟩]
def laws_szStringS.H : Heads := [(5, [(0, .ro), (1, .ro), (5, .ro)])]
noncomputable def laws_szStringS.F : Nat → ProdT (laws_szStringS.ps.map (·.τ)) → Option (ProdT (outs laws_szStringS.ps laws_szStringS.rs)) := evFn E laws_szStringS.C laws_szStringS.H Try.f50 laws_szStringS.ps laws_szStringS.rs
noncomputable def laws_szStringS.L5 (k k1 : Nat) (x0 : List ByteArray) (x1 : Int) (x5 : Int) : Option (Int) := atL E laws_szStringS.C laws_szStringS.H Try.f50 laws_szStringS.ps laws_szStringS.rs [true, true, true, false, true, true] k [] k1 (sh 28 [(0, .d (.row .str) x0 .ro), (1, .d (.int .i64) x1 .ro), (5, .d (.int .i64) x5 .ro)])
noncomputable def laws_szStringS.f (k : Nat) (x0 : List ByteArray) (x1 : Int) : Option (Int) := laws_szStringS.F k (x0, x1)
theorem laws_szStringS.f_eq (k : Nat) (x0 : List ByteArray) (x1 : Int) : laws_szStringS.f k x0 x1 = ifb (decide ((w64 (x1 - (x0.length : Int))) < 0)) (some (-1 : Int)) (laws_szStringS.L5 k k x0 (w64 (x1 - (x0.length : Int))) (0 : Int)) := by kernel_rfl
theorem laws_szStringS.L5_eq (k k1 : Nat) (x0 : List ByteArray) (x1 : Int) (x5 : Int) : laws_szStringS.L5 k (k1 + 1) x0 x1 x5 = ifb (decide (x5 < (x0.length : Int))) (ifb (decide (0 ≤ x5) && decide (x5 < (x0.length : Int))) (ifb (decide ((w64 (x1 - ((x0.getD x5.toNat bz).size : Int))) < 0)) (some (-1 : Int)) (laws_szStringS.L5 k k1 x0 (w64 (x1 - ((x0.getD x5.toNat bz).size : Int))) (w64 (x5 + 1)))) (none)) (some x1) := by kernel_rfl
theorem laws_szStringS.ok (k : Nat) : CsOk Try.prog Jp (laws_szStringS.C k) := .nil
theorem laws_szStringS.can : Can Try.prog 50 := can_of (fn := Try.f50) (by kernel_rfl) (by kernel_rfl) (by kernel_rfl)
theorem laws_szStringS.snd (k : Nat) : Snd Try.prog Jp 50 ⟨laws_szStringS.ps, laws_szStringS.rs, laws_szStringS.F k⟩ := snd_of E_ok laws_szStringS.ok mixed (fn := Try.f50) (by kernel_rfl) (by kernel_rfl) (by kernel_rfl) k
noncomputable def laws_szDelta.C (k : Nat) : CEs := [(48, ⟨laws_szAffixS.ps, laws_szAffixS.rs, laws_szAffixS.F k⟩), (49, ⟨laws_szEntryS.ps, laws_szEntryS.rs, laws_szEntryS.F k⟩), (50, ⟨laws_szStringS.ps, laws_szStringS.rs, laws_szStringS.F k⟩)]
abbrev laws_szDelta.ps : List Par := [⟨t28, .rd⟩, ⟨(.int .i64), .rd⟩]
abbrev laws_szDelta.rs : List Res := [⟨(.int .i64), .ro, false⟩]
def laws_szDelta.H : Heads := []
noncomputable def laws_szDelta.F : Nat → ProdT (laws_szDelta.ps.map (·.τ)) → Option (ProdT (outs laws_szDelta.ps laws_szDelta.rs)) := evFn E laws_szDelta.C laws_szDelta.H Try.f16 laws_szDelta.ps laws_szDelta.rs
noncomputable def laws_szDelta.f (k : Nat) (x0 : Delta) (x1 : Int) : Option (Int) := laws_szDelta.F k (x0, x1)
theorem laws_szDelta.f_eq (k : Nat) (x0 : Delta) (x1 : Int) : laws_szDelta.f k x0 x1 = (laws_szStringS.f k x0.1 x1).bind fun (r0 : Int) => ifb (decide (r0 < 0)) (some (-1 : Int)) ((laws_szEntryS.f k x0.2.1 r0).bind fun (r1 : Int) => ifb (decide (r1 < 0)) (some (-1 : Int)) ((laws_szAffixS.f k x0.2.2.2 r1).bind fun (r2 : Int) => ifb (decide (r2 < 0)) (some (-1 : Int)) (some r2))) := by kernel_rfl
theorem laws_szDelta.ok (k : Nat) : CsOk Try.prog Jp (laws_szDelta.C k) := .cons (laws_szAffixS.snd k) laws_szAffixS.can <| .cons (laws_szEntryS.snd k) laws_szEntryS.can <| .cons (laws_szStringS.snd k) laws_szStringS.can <| .nil
theorem laws_szDelta.can : Can Try.prog 16 := can_of (fn := Try.f16) (by kernel_rfl) (by kernel_rfl) (by kernel_rfl)
theorem laws_szDelta.snd (k : Nat) : Snd Try.prog Jp 16 ⟨laws_szDelta.ps, laws_szDelta.rs, laws_szDelta.F k⟩ := snd_of E_ok laws_szDelta.ok mixed (fn := Try.f16) (by kernel_rfl) (by kernel_rfl) (by kernel_rfl) k
noncomputable def laws_toAffix.C (k : Nat) : CEs := []
abbrev laws_toAffix.ps : List Par := [⟨t71, .rd⟩]
abbrev laws_toAffix.rs : List Res := [⟨t71, .ro, false⟩]
def laws_toAffix.H : Heads := []
noncomputable def laws_toAffix.F : Nat → ProdT (laws_toAffix.ps.map (·.τ)) → Option (ProdT (outs laws_toAffix.ps laws_toAffix.rs)) := evFn E laws_toAffix.C laws_toAffix.H Try.f92 laws_toAffix.ps laws_toAffix.rs
noncomputable def laws_toAffix.f (k : Nat) (x0 : Aff) : Option (Aff) := laws_toAffix.F k x0
theorem laws_toAffix.f_eq (k : Nat) (x0 : Aff) : laws_toAffix.f k x0 = some (x0.1, x0.2.1, x0.2.2.1, x0.2.2.2.1, x0.2.2.2.2) := by kernel_rfl
theorem laws_toAffix.ok (k : Nat) : CsOk Try.prog Jp (laws_toAffix.C k) := .nil
theorem laws_toAffix.can : Can Try.prog 92 := can_of (fn := Try.f92) (by kernel_rfl) (by kernel_rfl) (by kernel_rfl)
theorem laws_toAffix.snd (k : Nat) : Snd Try.prog Jp 92 ⟨laws_toAffix.ps, laws_toAffix.rs, laws_toAffix.F k⟩ := snd_of E_ok laws_toAffix.ok mixed (fn := Try.f92) (by kernel_rfl) (by kernel_rfl) (by kernel_rfl) k
noncomputable def laws_toAffixS.C (k : Nat) : CEs := [(92, ⟨laws_toAffix.ps, laws_toAffix.rs, laws_toAffix.F k⟩)]
abbrev laws_toAffixS.ps : List Par := [⟨t23, .rd⟩]
abbrev laws_toAffixS.rs : List Res := [⟨t23, (.own .ro), false⟩]
def laws_toAffixS.H : Heads := [(3, [(0, .ro), (3, (.own .ro)), (4, .ro)])]
noncomputable def laws_toAffixS.F : Nat → ProdT (laws_toAffixS.ps.map (·.τ)) → Option (ProdT (outs laws_toAffixS.ps laws_toAffixS.rs)) := evFn E laws_toAffixS.C laws_toAffixS.H Try.f51 laws_toAffixS.ps laws_toAffixS.rs
noncomputable def laws_toAffixS.L3 (k k1 : Nat) (x0 : List Aff) (x3 : List Aff) (x4 : Int) : Option (List Aff) := atL E laws_toAffixS.C laws_toAffixS.H Try.f51 laws_toAffixS.ps laws_toAffixS.rs [true, true, false, true, true] k [] k1 (sh 23 [(0, .d t23 x0 .ro), (3, .d t23 x3 (.own .ro)), (4, .d (.int .i64) x4 .ro)])
noncomputable def laws_toAffixS.f (k : Nat) (x0 : List Aff) : Option (List Aff) := laws_toAffixS.F k x0
theorem laws_toAffixS.f_eq (k : Nat) (x0 : List Aff) : laws_toAffixS.f k x0 = ifb (decide (0 ≤ (x0.length : Int)) && (decide ((x0.length : Int) ≤ (x0.length : Int)) && decide ((x0.length : Int) * 72 ≤ (rowMax : Int)))) (laws_toAffixS.L3 k k x0 (List.replicate (x0.length : Int).toNat zA) (0 : Int)) (none) := by kernel_rfl
theorem laws_toAffixS.L3_eq (k k1 : Nat) (x0 : List Aff) (x3 : List Aff) (x4 : Int) : laws_toAffixS.L3 k (k1 + 1) x0 x3 x4 = ifb (decide (x4 < (x0.length : Int))) (ifb (decide (0 ≤ x4) && decide (x4 < (x0.length : Int))) ((laws_toAffix.f k1 (x0.getD x4.toNat zA)).bind fun (r0 : Aff) => ifb (decide (0 ≤ x4) && decide (x4 < (x3.length : Int))) (laws_toAffixS.L3 k k1 x0 (x3.set x4.toNat r0) (w64 (x4 + 1))) (none)) (none)) (some x3) := by kernel_rfl
theorem laws_toAffixS.ok (k : Nat) : CsOk Try.prog Jp (laws_toAffixS.C k) := .cons (laws_toAffix.snd k) laws_toAffix.can <| .nil
theorem laws_toAffixS.can : Can Try.prog 51 := can_of (fn := Try.f51) (by kernel_rfl) (by kernel_rfl) (by kernel_rfl)
theorem laws_toAffixS.snd (k : Nat) : Snd Try.prog Jp 51 ⟨laws_toAffixS.ps, laws_toAffixS.rs, laws_toAffixS.F k⟩ := snd_of E_ok laws_toAffixS.ok mixed (fn := Try.f51) (by kernel_rfl) (by kernel_rfl) (by kernel_rfl) k
noncomputable def laws_toEntry.C (k : Nat) : CEs := []
abbrev laws_toEntry.ps : List Par := [⟨t37, .rd⟩]
abbrev laws_toEntry.rs : List Res := [⟨t37, .ro, false⟩]
def laws_toEntry.H : Heads := []
noncomputable def laws_toEntry.F : Nat → ProdT (laws_toEntry.ps.map (·.τ)) → Option (ProdT (outs laws_toEntry.ps laws_toEntry.rs)) := evFn E laws_toEntry.C laws_toEntry.H Try.f93 laws_toEntry.ps laws_toEntry.rs
noncomputable def laws_toEntry.f (k : Nat) (x0 : ByteArray × ByteArray) : Option En := laws_toEntry.F k x0
theorem laws_toEntry.f_eq (k : Nat) (x0 : ByteArray × ByteArray) : laws_toEntry.f k x0 = some (x0.1, x0.2) := by kernel_rfl
theorem laws_toEntry.ok (k : Nat) : CsOk Try.prog Jp (laws_toEntry.C k) := .nil
theorem laws_toEntry.can : Can Try.prog 93 := can_of (fn := Try.f93) (by kernel_rfl) (by kernel_rfl) (by kernel_rfl)
theorem laws_toEntry.snd (k : Nat) : Snd Try.prog Jp 93 ⟨laws_toEntry.ps, laws_toEntry.rs, laws_toEntry.F k⟩ := snd_of E_ok laws_toEntry.ok mixed (fn := Try.f93) (by kernel_rfl) (by kernel_rfl) (by kernel_rfl) k
noncomputable def laws_toEntryS.C (k : Nat) : CEs := [(93, ⟨laws_toEntry.ps, laws_toEntry.rs, laws_toEntry.F k⟩)]
abbrev laws_toEntryS.ps : List Par := [⟨t24, .rd⟩]
abbrev laws_toEntryS.rs : List Res := [⟨t24, (.own .ro), false⟩]
def laws_toEntryS.H : Heads := [(3, [(0, .ro), (3, (.own .ro)), (4, .ro)])]
noncomputable def laws_toEntryS.F : Nat → ProdT (laws_toEntryS.ps.map (·.τ)) → Option (ProdT (outs laws_toEntryS.ps laws_toEntryS.rs)) := evFn E laws_toEntryS.C laws_toEntryS.H Try.f52 laws_toEntryS.ps laws_toEntryS.rs
noncomputable def laws_toEntryS.L3 (k k1 : Nat) (x0 : List En) (x3 : List En) (x4 : Int) : Option (List En) := atL E laws_toEntryS.C laws_toEntryS.H Try.f52 laws_toEntryS.ps laws_toEntryS.rs [true, true, false, true, true] k [] k1 (sh 23 [(0, .d t24 x0 .ro), (3, .d t24 x3 (.own .ro)), (4, .d (.int .i64) x4 .ro)])
noncomputable def laws_toEntryS.f (k : Nat) (x0 : List En) : Option (List En) := laws_toEntryS.F k x0
theorem laws_toEntryS.f_eq (k : Nat) (x0 : List En) : laws_toEntryS.f k x0 = ifb (decide (0 ≤ (x0.length : Int)) && (decide ((x0.length : Int) ≤ (x0.length : Int)) && decide ((x0.length : Int) * 32 ≤ (rowMax : Int)))) (laws_toEntryS.L3 k k x0 (List.replicate (x0.length : Int).toNat zE) (0 : Int)) (none) := by kernel_rfl
theorem laws_toEntryS.L3_eq (k k1 : Nat) (x0 : List En) (x3 : List En) (x4 : Int) : laws_toEntryS.L3 k (k1 + 1) x0 x3 x4 = ifb (decide (x4 < (x0.length : Int))) (ifb (decide (0 ≤ x4) && decide (x4 < (x0.length : Int))) ((laws_toEntry.f k1 (x0.getD x4.toNat zE)).bind fun (r0 : ByteArray × ByteArray) => ifb (decide (0 ≤ x4) && decide (x4 < (x3.length : Int))) (laws_toEntryS.L3 k k1 x0 (x3.set x4.toNat r0) (w64 (x4 + 1))) (none)) (none)) (some x3) := by kernel_rfl
theorem laws_toEntryS.ok (k : Nat) : CsOk Try.prog Jp (laws_toEntryS.C k) := .cons (laws_toEntry.snd k) laws_toEntry.can <| .nil
theorem laws_toEntryS.can : Can Try.prog 52 := can_of (fn := Try.f52) (by kernel_rfl) (by kernel_rfl) (by kernel_rfl)
theorem laws_toEntryS.snd (k : Nat) : Snd Try.prog Jp 52 ⟨laws_toEntryS.ps, laws_toEntryS.rs, laws_toEntryS.F k⟩ := snd_of E_ok laws_toEntryS.ok mixed (fn := Try.f52) (by kernel_rfl) (by kernel_rfl) (by kernel_rfl) k
noncomputable def laws_toBook.C (k : Nat) : CEs := [(51, ⟨laws_toAffixS.ps, laws_toAffixS.rs, laws_toAffixS.F k⟩), (52, ⟨laws_toEntryS.ps, laws_toEntryS.rs, laws_toEntryS.F k⟩)]
abbrev laws_toBook.ps : List Par := [⟨t25, .rd⟩]
abbrev laws_toBook.rs : List Res := [⟨t25, (.pr (.own .ro) (.own .ro)), false⟩]
def laws_toBook.H : Heads := []
noncomputable def laws_toBook.F : Nat → ProdT (laws_toBook.ps.map (·.τ)) → Option (ProdT (outs laws_toBook.ps laws_toBook.rs)) := evFn E laws_toBook.C laws_toBook.H Try.f17 laws_toBook.ps laws_toBook.rs
noncomputable def laws_toBook.f (k : Nat) (x0 : Book) : Option Book := laws_toBook.F k x0
theorem laws_toBook.f_eq (k : Nat) (x0 : Book) : laws_toBook.f k x0 = (laws_toAffixS.f k x0.1).bind fun (r0 : List Aff) => (laws_toEntryS.f k x0.2).bind fun (r1 : List En) => some (r0, r1) := by kernel_rfl
theorem laws_toBook.ok (k : Nat) : CsOk Try.prog Jp (laws_toBook.C k) := .cons (laws_toAffixS.snd k) laws_toAffixS.can <| .cons (laws_toEntryS.snd k) laws_toEntryS.can <| .nil
theorem laws_toBook.can : Can Try.prog 17 := can_of (fn := Try.f17) (by kernel_rfl) (by kernel_rfl) (by kernel_rfl)
theorem laws_toBook.snd (k : Nat) : Snd Try.prog Jp 17 ⟨laws_toBook.ps, laws_toBook.rs, laws_toBook.F k⟩ := snd_of E_ok laws_toBook.ok mixed (fn := Try.f17) (by kernel_rfl) (by kernel_rfl) (by kernel_rfl) k
noncomputable def laws_toStringS.C (k : Nat) : CEs := []
abbrev laws_toStringS.ps : List Par := [⟨(.row .str), .rd⟩]
abbrev laws_toStringS.rs : List Res := [⟨(.row .str), (.own .ro), false⟩]
def laws_toStringS.H : Heads := [(3, [(0, .ro), (3, (.own .ro)), (4, .ro)])]
noncomputable def laws_toStringS.F : Nat → ProdT (laws_toStringS.ps.map (·.τ)) → Option (ProdT (outs laws_toStringS.ps laws_toStringS.rs)) := evFn E laws_toStringS.C laws_toStringS.H Try.f53 laws_toStringS.ps laws_toStringS.rs
noncomputable def laws_toStringS.L3 (k k1 : Nat) (x0 : List ByteArray) (x3 : List ByteArray) (x4 : Int) : Option (List ByteArray) := atL E laws_toStringS.C laws_toStringS.H Try.f53 laws_toStringS.ps laws_toStringS.rs [true, true, false, true, true] k [] k1 (sh 22 [(0, .d (.row .str) x0 .ro), (3, .d (.row .str) x3 (.own .ro)), (4, .d (.int .i64) x4 .ro)])
noncomputable def laws_toStringS.f (k : Nat) (x0 : List ByteArray) : Option (List ByteArray) := laws_toStringS.F k x0
theorem laws_toStringS.f_eq (k : Nat) (x0 : List ByteArray) : laws_toStringS.f k x0 = ifb (decide (0 ≤ (x0.length : Int)) && (decide ((x0.length : Int) ≤ (x0.length : Int)) && decide ((x0.length : Int) * 16 ≤ (rowMax : Int)))) (laws_toStringS.L3 k k x0 (List.replicate (x0.length : Int).toNat bz) (0 : Int)) (none) := by kernel_rfl
theorem laws_toStringS.L3_eq (k k1 : Nat) (x0 : List ByteArray) (x3 : List ByteArray) (x4 : Int) : laws_toStringS.L3 k (k1 + 1) x0 x3 x4 = ifb (decide (x4 < (x0.length : Int))) (ifb (decide (0 ≤ x4) && decide (x4 < (x0.length : Int))) (ifb (decide (0 ≤ x4) && decide (x4 < (x3.length : Int))) (laws_toStringS.L3 k k1 x0 (x3.set x4.toNat (x0.getD x4.toNat bz)) (w64 (x4 + 1))) (none)) (none)) (some x3) := by kernel_rfl
theorem laws_toStringS.ok (k : Nat) : CsOk Try.prog Jp (laws_toStringS.C k) := .nil
theorem laws_toStringS.can : Can Try.prog 53 := can_of (fn := Try.f53) (by kernel_rfl) (by kernel_rfl) (by kernel_rfl)
theorem laws_toStringS.snd (k : Nat) : Snd Try.prog Jp 53 ⟨laws_toStringS.ps, laws_toStringS.rs, laws_toStringS.F k⟩ := snd_of E_ok laws_toStringS.ok mixed (fn := Try.f53) (by kernel_rfl) (by kernel_rfl) (by kernel_rfl) k
noncomputable def laws_toDelta.C (k : Nat) : CEs := [(51, ⟨laws_toAffixS.ps, laws_toAffixS.rs, laws_toAffixS.F k⟩), (52, ⟨laws_toEntryS.ps, laws_toEntryS.rs, laws_toEntryS.F k⟩), (53, ⟨laws_toStringS.ps, laws_toStringS.rs, laws_toStringS.F k⟩)]
abbrev laws_toDelta.ps : List Par := [⟨t28, .rd⟩]
abbrev laws_toDelta.rs : List Res := [⟨t28, (.pr (.own .ro) (.pr (.own .ro) (.pr .ro (.own .ro)))), false⟩]
def laws_toDelta.H : Heads := []
noncomputable def laws_toDelta.F : Nat → ProdT (laws_toDelta.ps.map (·.τ)) → Option (ProdT (outs laws_toDelta.ps laws_toDelta.rs)) := evFn E laws_toDelta.C laws_toDelta.H Try.f18 laws_toDelta.ps laws_toDelta.rs
noncomputable def laws_toDelta.f (k : Nat) (x0 : Delta) : Option Delta := laws_toDelta.F k x0
theorem laws_toDelta.f_eq (k : Nat) (x0 : Delta) : laws_toDelta.f k x0 = (laws_toStringS.f k x0.1).bind fun (r0 : List ByteArray) => (laws_toEntryS.f k x0.2.1).bind fun (r1 : List En) => (laws_toAffixS.f k x0.2.2.2).bind fun (r2 : List Aff) => some (r0, r1, x0.2.2.1, r2) := by kernel_rfl
theorem laws_toDelta.ok (k : Nat) : CsOk Try.prog Jp (laws_toDelta.C k) := .cons (laws_toAffixS.snd k) laws_toAffixS.can <| .cons (laws_toEntryS.snd k) laws_toEntryS.can <| .cons (laws_toStringS.snd k) laws_toStringS.can <| .nil
theorem laws_toDelta.can : Can Try.prog 18 := can_of (fn := Try.f18) (by kernel_rfl) (by kernel_rfl) (by kernel_rfl)
theorem laws_toDelta.snd (k : Nat) : Snd Try.prog Jp 18 ⟨laws_toDelta.ps, laws_toDelta.rs, laws_toDelta.F k⟩ := snd_of E_ok laws_toDelta.ok mixed (fn := Try.f18) (by kernel_rfl) (by kernel_rfl) (by kernel_rfl) k
noncomputable def spec_l2Flag.C (k : Nat) : CEs := []
abbrev spec_l2Flag.ps : List Par := [⟨.str, .rd⟩]
abbrev spec_l2Flag.rs : List Res := [⟨.bool, .ro, false⟩]
def spec_l2Flag.H : Heads := []
noncomputable def spec_l2Flag.F : Nat → ProdT (spec_l2Flag.ps.map (·.τ)) → Option (ProdT (outs spec_l2Flag.ps spec_l2Flag.rs)) := evFn E spec_l2Flag.C spec_l2Flag.H Try.f89 spec_l2Flag.ps spec_l2Flag.rs
noncomputable def spec_l2Flag.f (k : Nat) (x0 : ByteArray) : Option (Bool) := spec_l2Flag.F k x0
theorem spec_l2Flag.f_eq (k : Nat) (x0 : ByteArray) : spec_l2Flag.f k x0 = ifb ((x0.size : Int) == (1 : Int)) (ifb (decide (0 ≤ (0 : Int)) && decide ((0 : Int) < (x0.size : Int))) (ifb (decide ((byteAt x0 (0 : Int)) ≥ (65 : Int))) (ifb (decide (0 ≤ (0 : Int)) && decide ((0 : Int) < (x0.size : Int))) (some (decide ((byteAt x0 (0 : Int)) ≤ (90 : Int)))) (none)) (some false)) (none)) (some false) := by kernel_rfl
theorem spec_l2Flag.ok (k : Nat) : CsOk Try.prog Jp (spec_l2Flag.C k) := .nil
theorem spec_l2Flag.can : Can Try.prog 89 := can_of (fn := Try.f89) (by kernel_rfl) (by kernel_rfl) (by kernel_rfl)
theorem spec_l2Flag.snd (k : Nat) : Snd Try.prog Jp 89 ⟨spec_l2Flag.ps, spec_l2Flag.rs, spec_l2Flag.F k⟩ := snd_of E_ok spec_l2Flag.ok mixed (fn := Try.f89) (by kernel_rfl) (by kernel_rfl) (by kernel_rfl) k
noncomputable def spec_l1Letters.C (k : Nat) : CEs := []
abbrev spec_l1Letters.ps : List Par := [⟨.str, .rd⟩, ⟨(.int .i64), .rd⟩]
abbrev spec_l1Letters.rs : List Res := [⟨.bool, .ro, false⟩]
def spec_l1Letters.H : Heads := [(2, [(0, .ro), (1, .ro), (5, .ro)])]
noncomputable def spec_l1Letters.F : Nat → ProdT (spec_l1Letters.ps.map (·.τ)) → Option (ProdT (outs spec_l1Letters.ps spec_l1Letters.rs)) := evFn E spec_l1Letters.C spec_l1Letters.H Try.f87 spec_l1Letters.ps spec_l1Letters.rs
noncomputable def spec_l1Letters.L2 (k k1 : Nat) (x0 : ByteArray) (x1 : Int) (x5 : Int) : Option (Bool) := atL E spec_l1Letters.C spec_l1Letters.H Try.f87 spec_l1Letters.ps spec_l1Letters.rs [true, false, true, true] k [] k1 (sh 26 [(0, .d .str x0 .ro), (1, .d (.int .i64) x1 .ro), (5, .d (.int .i64) x5 .ro)])
noncomputable def spec_l1Letters.f (k : Nat) (x0 : ByteArray) (x1 : Int) : Option (Bool) := spec_l1Letters.F k (x0, x1)
theorem spec_l1Letters.f_eq (k : Nat) (x0 : ByteArray) (x1 : Int) : spec_l1Letters.f k x0 x1 = spec_l1Letters.L2 k k x0 x1 (0 : Int) := by kernel_rfl
theorem spec_l1Letters.L2_eq (k k1 : Nat) (x0 : ByteArray) (x1 : Int) (x5 : Int) : spec_l1Letters.L2 k (k1 + 1) x0 x1 x5 = ifb (decide (x5 < (x0.size : Int))) (ifb (decide (0 ≤ x5) && decide (x5 < (x0.size : Int))) (ifb (decide ((byteAt x0 x5) < (97 : Int))) (some false) (ifb (decide (0 ≤ x5) && decide (x5 < (x0.size : Int))) (ifb (decide ((byteAt x0 x5) > (122 : Int))) (some false) (spec_l1Letters.L2 k k1 x0 x1 (w64 (x5 + 1)))) (none))) (none)) (some (decide ((x0.size : Int) ≤ x1))) := by kernel_rfl
theorem spec_l1Letters.ok (k : Nat) : CsOk Try.prog Jp (spec_l1Letters.C k) := .nil
theorem spec_l1Letters.can : Can Try.prog 87 := can_of (fn := Try.f87) (by kernel_rfl) (by kernel_rfl) (by kernel_rfl)
theorem spec_l1Letters.snd (k : Nat) : Snd Try.prog Jp 87 ⟨spec_l1Letters.ps, spec_l1Letters.rs, spec_l1Letters.F k⟩ := snd_of E_ok spec_l1Letters.ok mixed (fn := Try.f87) (by kernel_rfl) (by kernel_rfl) (by kernel_rfl) k
noncomputable def spec_l1Word.C (k : Nat) : CEs := [(87, ⟨spec_l1Letters.ps, spec_l1Letters.rs, spec_l1Letters.F k⟩)]
abbrev spec_l1Word.ps : List Par := [⟨.str, .rd⟩]
abbrev spec_l1Word.rs : List Res := [⟨.bool, .ro, false⟩]
def spec_l1Word.H : Heads := []
noncomputable def spec_l1Word.F : Nat → ProdT (spec_l1Word.ps.map (·.τ)) → Option (ProdT (outs spec_l1Word.ps spec_l1Word.rs)) := evFn E spec_l1Word.C spec_l1Word.H Try.f44 spec_l1Word.ps spec_l1Word.rs
noncomputable def spec_l1Word.f (k : Nat) (x0 : ByteArray) : Option (Bool) := spec_l1Word.F k x0
theorem spec_l1Word.f_eq (k : Nat) (x0 : ByteArray) : spec_l1Word.f k x0 = ifb (decide ((x0.size : Int) > 0)) ((spec_l1Letters.f k x0 (12 : Int)).bind fun (r0 : Bool) => some r0) (some false) := by kernel_rfl
theorem spec_l1Word.ok (k : Nat) : CsOk Try.prog Jp (spec_l1Word.C k) := .cons (spec_l1Letters.snd k) spec_l1Letters.can <| .nil
theorem spec_l1Word.can : Can Try.prog 44 := can_of (fn := Try.f44) (by kernel_rfl) (by kernel_rfl) (by kernel_rfl)
theorem spec_l1Word.snd (k : Nat) : Snd Try.prog Jp 44 ⟨spec_l1Word.ps, spec_l1Word.rs, spec_l1Word.F k⟩ := snd_of E_ok spec_l1Word.ok mixed (fn := Try.f44) (by kernel_rfl) (by kernel_rfl) (by kernel_rfl) k
noncomputable def spec_l2Entry.C (k : Nat) : CEs := [(89, ⟨spec_l2Flag.ps, spec_l2Flag.rs, spec_l2Flag.F k⟩), (44, ⟨spec_l1Word.ps, spec_l1Word.rs, spec_l1Word.F k⟩)]
abbrev spec_l2Entry.ps : List Par := [⟨t37, .rd⟩]
abbrev spec_l2Entry.rs : List Res := [⟨.bool, .ro, false⟩]
def spec_l2Entry.H : Heads := [(2, [(1, .ro), (3, .ro)])]
noncomputable def spec_l2Entry.F : Nat → ProdT (spec_l2Entry.ps.map (·.τ)) → Option (ProdT (outs spec_l2Entry.ps spec_l2Entry.rs)) := evFn E spec_l2Entry.C spec_l2Entry.H Try.f47 spec_l2Entry.ps spec_l2Entry.rs
noncomputable def spec_l2Entry.L2 (k k1 : Nat) (x1 : ByteArray × ByteArray) (x3 : Int) : Option (Bool) := atL E spec_l2Entry.C spec_l2Entry.H Try.f47 spec_l2Entry.ps spec_l2Entry.rs [true, false, true, true] k [] k1 (sh 44 [(1, .box t37 x1 .ro none), (3, .d (.int .i64) x3 .ro)])
noncomputable def spec_l2Entry.f (k : Nat) (x0 : ByteArray × ByteArray) : Option (Bool) := spec_l2Entry.F k x0
theorem spec_l2Entry.f_eq (k : Nat) (x0 : ByteArray × ByteArray) : spec_l2Entry.f k x0 = spec_l2Entry.L2 k k x0 (0 : Int) := by kernel_rfl
theorem spec_l2Entry.L2_eq (k k1 : Nat) (x1 : ByteArray × ByteArray) (x3 : Int) : spec_l2Entry.L2 k (k1 + 1) x1 x3 = ifb (decide (x3 < (x1.2.size : Int))) (ifb (decide (0 ≤ x3) && (decide (x3 ≤ (w64 (x3 + 1))) && decide ((w64 (x3 + 1)) ≤ (x1.2.size : Int)))) ((spec_l2Flag.f k1 (x1.2.extract x3.toNat (w64 (x3 + 1)).toNat)).bind fun (r0 : Bool) => ifb (!r0) (some false) (ifb (decide (x3 > 0)) (ifb (decide (0 ≤ (w64 (x3 - 1))) && decide ((w64 (x3 - 1)) < (x1.2.size : Int))) (ifb (decide (0 ≤ x3) && decide (x3 < (x1.2.size : Int))) (ifb (decide ((byteAt x1.2 (w64 (x3 - 1))) ≥ (byteAt x1.2 x3))) (some false) (spec_l2Entry.L2 k k1 x1 (w64 (x3 + 1)))) (none)) (none)) (spec_l2Entry.L2 k k1 x1 (w64 (x3 + 1))))) (none)) ((spec_l1Word.f k x1.1).bind fun (r1 : Bool) => ifb r1 (some (decide ((x1.2.size : Int) ≤ (4 : Int)))) (some false)) := by kernel_rfl
theorem spec_l2Entry.ok (k : Nat) : CsOk Try.prog Jp (spec_l2Entry.C k) := .cons (spec_l2Flag.snd k) spec_l2Flag.can <| .cons (spec_l1Word.snd k) spec_l1Word.can <| .nil
theorem spec_l2Entry.can : Can Try.prog 47 := can_of (fn := Try.f47) (by kernel_rfl) (by kernel_rfl) (by kernel_rfl)
theorem spec_l2Entry.snd (k : Nat) : Snd Try.prog Jp 47 ⟨spec_l2Entry.ps, spec_l2Entry.rs, spec_l2Entry.F k⟩ := snd_of E_ok spec_l2Entry.ok mixed (fn := Try.f47) (by kernel_rfl) (by kernel_rfl) (by kernel_rfl) k
noncomputable def spec_l2Begins.C (k : Nat) : CEs := []
abbrev spec_l2Begins.ps : List Par := [⟨.str, .rd⟩, ⟨.str, .rd⟩]
abbrev spec_l2Begins.rs : List Res := [⟨.bool, .ro, false⟩]
def spec_l2Begins.H : Heads := []
noncomputable def spec_l2Begins.F : Nat → ProdT (spec_l2Begins.ps.map (·.τ)) → Option (ProdT (outs spec_l2Begins.ps spec_l2Begins.rs)) := evFn E spec_l2Begins.C spec_l2Begins.H Try.f110 spec_l2Begins.ps spec_l2Begins.rs
noncomputable def spec_l2Begins.f (k : Nat) (x0 : ByteArray) (x1 : ByteArray) : Option (Bool) := spec_l2Begins.F k (x0, x1)
theorem spec_l2Begins.f_eq (k : Nat) (x0 : ByteArray) (x1 : ByteArray) : spec_l2Begins.f k x0 x1 = ifb (decide ((x0.size : Int) ≥ (x1.size : Int))) (ifb (decide (0 ≤ (0 : Int)) && (decide ((0 : Int) ≤ (x1.size : Int)) && decide ((x1.size : Int) ≤ (x0.size : Int)))) (some ((x0.extract (0 : Int).toNat (x1.size : Int).toNat).toList == x1.toList)) (none)) (some false) := by kernel_rfl
theorem spec_l2Begins.ok (k : Nat) : CsOk Try.prog Jp (spec_l2Begins.C k) := .nil
theorem spec_l2Begins.can : Can Try.prog 110 := can_of (fn := Try.f110) (by kernel_rfl) (by kernel_rfl) (by kernel_rfl)
theorem spec_l2Begins.snd (k : Nat) : Snd Try.prog Jp 110 ⟨spec_l2Begins.ps, spec_l2Begins.rs, spec_l2Begins.F k⟩ := snd_of E_ok spec_l2Begins.ok mixed (fn := Try.f110) (by kernel_rfl) (by kernel_rfl) (by kernel_rfl) k
noncomputable def spec_l2Ends.C (k : Nat) : CEs := []
abbrev spec_l2Ends.ps : List Par := [⟨.str, .rd⟩, ⟨.str, .rd⟩]
abbrev spec_l2Ends.rs : List Res := [⟨.bool, .ro, false⟩]
def spec_l2Ends.H : Heads := []
noncomputable def spec_l2Ends.F : Nat → ProdT (spec_l2Ends.ps.map (·.τ)) → Option (ProdT (outs spec_l2Ends.ps spec_l2Ends.rs)) := evFn E spec_l2Ends.C spec_l2Ends.H Try.f111 spec_l2Ends.ps spec_l2Ends.rs
noncomputable def spec_l2Ends.f (k : Nat) (x0 : ByteArray) (x1 : ByteArray) : Option (Bool) := spec_l2Ends.F k (x0, x1)
theorem spec_l2Ends.f_eq (k : Nat) (x0 : ByteArray) (x1 : ByteArray) : spec_l2Ends.f k x0 x1 = ifb (decide ((x0.size : Int) ≥ (x1.size : Int))) (ifb (decide (0 ≤ (w64 ((x0.size : Int) - (x1.size : Int)))) && (decide ((w64 ((x0.size : Int) - (x1.size : Int))) ≤ (x0.size : Int)) && decide ((x0.size : Int) ≤ (x0.size : Int)))) (some ((x0.extract (w64 ((x0.size : Int) - (x1.size : Int))).toNat (x0.size : Int).toNat).toList == x1.toList)) (none)) (some false) := by kernel_rfl
theorem spec_l2Ends.ok (k : Nat) : CsOk Try.prog Jp (spec_l2Ends.C k) := .nil
theorem spec_l2Ends.can : Can Try.prog 111 := can_of (fn := Try.f111) (by kernel_rfl) (by kernel_rfl) (by kernel_rfl)
theorem spec_l2Ends.snd (k : Nat) : Snd Try.prog Jp 111 ⟨spec_l2Ends.ps, spec_l2Ends.rs, spec_l2Ends.F k⟩ := snd_of E_ok spec_l2Ends.ok mixed (fn := Try.f111) (by kernel_rfl) (by kernel_rfl) (by kernel_rfl) k
noncomputable def spec_AffixOk.C (k : Nat) : CEs := [(89, ⟨spec_l2Flag.ps, spec_l2Flag.rs, spec_l2Flag.F k⟩), (87, ⟨spec_l1Letters.ps, spec_l1Letters.rs, spec_l1Letters.F k⟩), (110, ⟨spec_l2Begins.ps, spec_l2Begins.rs, spec_l2Begins.F k⟩), (111, ⟨spec_l2Ends.ps, spec_l2Ends.rs, spec_l2Ends.F k⟩)]
abbrev spec_AffixOk.ps : List Par := [⟨t71, .rd⟩]
abbrev spec_AffixOk.rs : List Res := [⟨.bool, .ro, false⟩]
def spec_AffixOk.H : Heads := []
noncomputable def spec_AffixOk.F : Nat → ProdT (spec_AffixOk.ps.map (·.τ)) → Option (ProdT (outs spec_AffixOk.ps spec_AffixOk.rs)) := evFn E spec_AffixOk.C spec_AffixOk.H Try.f88 spec_AffixOk.ps spec_AffixOk.rs
noncomputable def spec_AffixOk.f (k : Nat) (x0 : Aff) : Option (Bool) := spec_AffixOk.F k x0
theorem spec_AffixOk.f_eq (k : Nat) (x0 : Aff) : spec_AffixOk.f k x0 = (spec_l2Flag.f k x0.1).bind fun (r0 : Bool) => ifb (!r0) (some false) ((spec_l1Letters.f k x0.2.2.1 (4 : Int)).bind fun (r1 : Bool) => ifb (!r1) (some false) ((spec_l1Letters.f k x0.2.2.2.1 (4 : Int)).bind fun (r2 : Bool) => ifb (!r2) (some false) ((spec_l1Letters.f k x0.2.2.2.2 (4 : Int)).bind fun (r3 : Bool) => ifb (!r3) (some false) (ifb x0.2.1 ((spec_l2Begins.f k x0.2.2.2.2 x0.2.2.1).bind fun (r4 : Bool) => some r4) ((spec_l2Ends.f k x0.2.2.2.2 x0.2.2.1).bind fun (r5 : Bool) => some r5))))) := by kernel_rfl
theorem spec_AffixOk.ok (k : Nat) : CsOk Try.prog Jp (spec_AffixOk.C k) := .cons (spec_l2Flag.snd k) spec_l2Flag.can <| .cons (spec_l1Letters.snd k) spec_l1Letters.can <| .cons (spec_l2Begins.snd k) spec_l2Begins.can <| .cons (spec_l2Ends.snd k) spec_l2Ends.can <| .nil
theorem spec_AffixOk.can : Can Try.prog 88 := can_of (fn := Try.f88) (by kernel_rfl) (by kernel_rfl) (by kernel_rfl)
theorem spec_AffixOk.snd (k : Nat) : Snd Try.prog Jp 88 ⟨spec_AffixOk.ps, spec_AffixOk.rs, spec_AffixOk.F k⟩ := snd_of E_ok spec_AffixOk.ok mixed (fn := Try.f88) (by kernel_rfl) (by kernel_rfl) (by kernel_rfl) k
noncomputable def spec_l2Affixes.C (k : Nat) : CEs := [(88, ⟨spec_AffixOk.ps, spec_AffixOk.rs, spec_AffixOk.F k⟩)]
abbrev spec_l2Affixes.ps : List Par := [⟨t23, .rd⟩]
abbrev spec_l2Affixes.rs : List Res := [⟨.bool, .ro, false⟩]
def spec_l2Affixes.H : Heads := [(2, [(0, .ro), (3, .ro)]), (7, [(0, .ro), (3, .ro), (4, .ro)])]
noncomputable def spec_l2Affixes.F : Nat → ProdT (spec_l2Affixes.ps.map (·.τ)) → Option (ProdT (outs spec_l2Affixes.ps spec_l2Affixes.rs)) := evFn E spec_l2Affixes.C spec_l2Affixes.H Try.f46 spec_l2Affixes.ps spec_l2Affixes.rs
noncomputable def spec_l2Affixes.L2 (k k1 : Nat) (x0 : List Aff) (x3 : Int) : Option (Bool) := atL E spec_l2Affixes.C spec_l2Affixes.H Try.f46 spec_l2Affixes.ps spec_l2Affixes.rs [true, false, true, true] k [] k1 (sh 34 [(0, .d t23 x0 .ro), (3, .d (.int .i64) x3 .ro)])
noncomputable def spec_l2Affixes.L7 (k k1 k2 : Nat) (x0 : List Aff) (x3 : Int) (x4 : Int) : Option (Bool) := atL E spec_l2Affixes.C spec_l2Affixes.H Try.f46 spec_l2Affixes.ps spec_l2Affixes.rs [true, false, true, true, true, true, false, true, true, true, true] k [k1] k2 (sh 34 [(0, .d t23 x0 .ro), (3, .d (.int .i64) x3 .ro), (4, .d (.int .i64) x4 .ro)])
noncomputable def spec_l2Affixes.f (k : Nat) (x0 : List Aff) : Option (Bool) := spec_l2Affixes.F k x0
theorem spec_l2Affixes.f_eq (k : Nat) (x0 : List Aff) : spec_l2Affixes.f k x0 = spec_l2Affixes.L2 k k x0 (0 : Int) := by kernel_rfl
theorem spec_l2Affixes.L2_eq (k k1 : Nat) (x0 : List Aff) (x3 : Int) : spec_l2Affixes.L2 k (k1 + 1) x0 x3 = ifb (decide (x3 < (x0.length : Int))) (ifb (decide (0 ≤ x3) && decide (x3 < (x0.length : Int))) ((spec_AffixOk.f k1 (x0.getD x3.toNat zA)).bind fun (r0 : Bool) => ifb (!r0) (some false) (spec_l2Affixes.L7 k k1 k1 x0 x3 (0 : Int))) (none)) (some (decide ((x0.length : Int) ≤ (8 : Int)))) := by kernel_rfl
theorem spec_l2Affixes.L7_eq (k k1 k2 : Nat) (x0 : List Aff) (x3 : Int) (x4 : Int) : spec_l2Affixes.L7 k k1 (k2 + 1) x0 x3 x4 = ifb (decide (x4 < x3)) (ifb (decide (0 ≤ x4) && decide (x4 < (x0.length : Int))) (ifb (decide (0 ≤ x3) && decide (x3 < (x0.length : Int))) (ifb ((((x0.getD x4.toNat zA).1).toList == ((x0.getD x3.toNat zA).1).toList) && ((((x0.getD x4.toNat zA).2).1 == ((x0.getD x3.toNat zA).2).1) && ((((((x0.getD x4.toNat zA).2).2).1).toList == ((((x0.getD x3.toNat zA).2).2).1).toList) && (((((((x0.getD x4.toNat zA).2).2).2).1).toList == (((((x0.getD x3.toNat zA).2).2).2).1).toList) && ((((((x0.getD x4.toNat zA).2).2).2).2).toList == (((((x0.getD x3.toNat zA).2).2).2).2).toList))))) (some false) (spec_l2Affixes.L7 k k1 k2 x0 x3 (w64 (x4 + 1)))) (none)) (none)) (spec_l2Affixes.L2 k k1 x0 (w64 (x3 + 1))) := by kernel_rfl
theorem spec_l2Affixes.ok (k : Nat) : CsOk Try.prog Jp (spec_l2Affixes.C k) := .cons (spec_AffixOk.snd k) spec_AffixOk.can <| .nil
theorem spec_l2Affixes.can : Can Try.prog 46 := can_of (fn := Try.f46) (by kernel_rfl) (by kernel_rfl) (by kernel_rfl)
theorem spec_l2Affixes.snd (k : Nat) : Snd Try.prog Jp 46 ⟨spec_l2Affixes.ps, spec_l2Affixes.rs, spec_l2Affixes.F k⟩ := snd_of E_ok spec_l2Affixes.ok mixed (fn := Try.f46) (by kernel_rfl) (by kernel_rfl) (by kernel_rfl) k
noncomputable def spec_BookOk.C (k : Nat) : CEs := [(47, ⟨spec_l2Entry.ps, spec_l2Entry.rs, spec_l2Entry.F k⟩), (46, ⟨spec_l2Affixes.ps, spec_l2Affixes.rs, spec_l2Affixes.F k⟩)]
abbrev spec_BookOk.ps : List Par := [⟨t25, .rd⟩]
abbrev spec_BookOk.rs : List Res := [⟨.bool, .ro, false⟩]
def spec_BookOk.H : Heads := [(2, [(1, .ro), (3, .ro)])]
noncomputable def spec_BookOk.F : Nat → ProdT (spec_BookOk.ps.map (·.τ)) → Option (ProdT (outs spec_BookOk.ps spec_BookOk.rs)) := evFn E spec_BookOk.C spec_BookOk.H Try.f12 spec_BookOk.ps spec_BookOk.rs
noncomputable def spec_BookOk.L2 (k k1 : Nat) (x1 : Book) (x3 : Int) : Option (Bool) := atL E spec_BookOk.C spec_BookOk.H Try.f12 spec_BookOk.ps spec_BookOk.rs [true, false, true, true] k [] k1 (sh 47 [(1, .box t25 x1 .ro none), (3, .d (.int .i64) x3 .ro)])
noncomputable def spec_BookOk.f (k : Nat) (x0 : Book) : Option (Bool) := spec_BookOk.F k x0
theorem spec_BookOk.f_eq (k : Nat) (x0 : Book) : spec_BookOk.f k x0 = spec_BookOk.L2 k k x0 (0 : Int) := by kernel_rfl
theorem spec_BookOk.L2_eq (k k1 : Nat) (x1 : Book) (x3 : Int) : spec_BookOk.L2 k (k1 + 1) x1 x3 = ifb (decide (x3 < (x1.2.length : Int))) (ifb (decide (0 ≤ x3) && decide (x3 < (x1.2.length : Int))) ((spec_l2Entry.f k1 (x1.2.getD x3.toNat zE)).bind fun (r0 : Bool) => ifb (!r0) (some false) (ifb (decide (x3 > 0)) (ifb (decide (0 ≤ (w64 (x3 - 1))) && decide ((w64 (x3 - 1)) < (x1.2.length : Int))) (ifb (decide (0 ≤ x3) && decide (x3 < (x1.2.length : Int))) (ifb (!(Op.bytesLess ((x1.2.getD ((w64 (x3 - 1)).toNat) zE).1).toList ((x1.2.getD x3.toNat zE).1).toList)) (some false) (spec_BookOk.L2 k k1 x1 (w64 (x3 + 1)))) (none)) (none)) (spec_BookOk.L2 k k1 x1 (w64 (x3 + 1))))) (none)) ((spec_l2Affixes.f k x1.1).bind fun (r1 : Bool) => ifb r1 (some (decide ((x1.2.length : Int) ≤ (24 : Int)))) (some false)) := by kernel_rfl
theorem spec_BookOk.ok (k : Nat) : CsOk Try.prog Jp (spec_BookOk.C k) := .cons (spec_l2Entry.snd k) spec_l2Entry.can <| .cons (spec_l2Affixes.snd k) spec_l2Affixes.can <| .nil
theorem spec_BookOk.can : Can Try.prog 12 := can_of (fn := Try.f12) (by kernel_rfl) (by kernel_rfl) (by kernel_rfl)
theorem spec_BookOk.snd (k : Nat) : Snd Try.prog Jp 12 ⟨spec_BookOk.ps, spec_BookOk.rs, spec_BookOk.F k⟩ := snd_of E_ok spec_BookOk.ok mixed (fn := Try.f12) (by kernel_rfl) (by kernel_rfl) (by kernel_rfl) k
noncomputable def spec_l5Entries.C (k : Nat) : CEs := [(12, ⟨spec_BookOk.ps, spec_BookOk.rs, spec_BookOk.F k⟩)]
abbrev spec_l5Entries.ps : List Par := [⟨t24, .rd⟩]
abbrev spec_l5Entries.rs : List Res := [⟨.bool, .ro, false⟩]
def spec_l5Entries.H : Heads := []
noncomputable def spec_l5Entries.F : Nat → ProdT (spec_l5Entries.ps.map (·.τ)) → Option (ProdT (outs spec_l5Entries.ps spec_l5Entries.rs)) := evFn E spec_l5Entries.C spec_l5Entries.H Try.f45 spec_l5Entries.ps spec_l5Entries.rs
noncomputable def spec_l5Entries.f (k : Nat) (x0 : List En) : Option (Bool) := spec_l5Entries.F k x0
theorem spec_l5Entries.f_eq (k : Nat) (x0 : List En) : spec_l5Entries.f k x0 = (spec_BookOk.f k (([] : List Aff), x0)).bind fun (r0 : Bool) => some r0 := by kernel_rfl
theorem spec_l5Entries.ok (k : Nat) : CsOk Try.prog Jp (spec_l5Entries.C k) := .cons (spec_BookOk.snd k) spec_BookOk.can <| .nil
theorem spec_l5Entries.can : Can Try.prog 45 := can_of (fn := Try.f45) (by kernel_rfl) (by kernel_rfl) (by kernel_rfl)
theorem spec_l5Entries.snd (k : Nat) : Snd Try.prog Jp 45 ⟨spec_l5Entries.ps, spec_l5Entries.rs, spec_l5Entries.F k⟩ := snd_of E_ok spec_l5Entries.ok mixed (fn := Try.f45) (by kernel_rfl) (by kernel_rfl) (by kernel_rfl) k
end Go.Proofs.Ytabindnaedchgaa.Rf
