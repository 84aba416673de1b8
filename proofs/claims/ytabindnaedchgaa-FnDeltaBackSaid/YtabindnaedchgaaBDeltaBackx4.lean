import Derived.Test.YtabindnaedchgaaBDeltaBackx3
import Derived.Shelf.SlicesQ.IndexFunc
import Derived.Ground.SlgfProg
import Derived.Shelf.SlSortCmp.NoneTotal
import Derived.Ground.SlsfProg
import Derived.Test.YtabindnaedchgaaProg
import Derived.Lib.SliceRun
import Derived.Sort.LotA
import Derived.Sort.Walk0
import Derived.Laws.Cover1

section
/- Functions of the program, told plainly, and their contracts: part A0. -/
namespace Go.Proofs.Ytabindnaedchgaa.Rf
open Go Go.RowKit
set_option linter.unusedVariables false
noncomputable def laws_szAffix.C (k : Nat) : CEs := []
abbrev laws_szAffix.ps : List Par := [⟨t71, .rd⟩, ⟨(.int .i64), .rd⟩]
abbrev laws_szAffix.rs : List Res := [⟨(.int .i64), .ro, false⟩]
def laws_szAffix.H : Heads := []
noncomputable def laws_szAffix.F : Nat → ProdT (laws_szAffix.ps.map (·.τ)) → Option (ProdT (outs laws_szAffix.ps laws_szAffix.rs)) := evFn E laws_szAffix.C laws_szAffix.H Try.f90 laws_szAffix.ps laws_szAffix.rs
noncomputable def laws_szAffix.f (k : Nat) (x0 : Aff) (x1 : Int) : Option (Int) := laws_szAffix.F k (x0, x1)
theorem laws_szAffix.f_eq (k : Nat) (x0 : Aff) (x1 : Int) : laws_szAffix.f k x0 x1 = ifb (decide ((w64 (x1 - (x0.1.size : Int))) < 0)) (some (-1 : Int)) (ifb (decide ((w64 ((w64 (x1 - (x0.1.size : Int))) - (x0.2.2.1.size : Int))) < 0)) (some (-1 : Int)) (ifb (decide ((w64 ((w64 ((w64 (x1 - (x0.1.size : Int))) - (x0.2.2.1.size : Int))) - (x0.2.2.2.1.size : Int))) < 0)) (some (-1 : Int)) (ifb (decide ((w64 ((w64 ((w64 ((w64 (x1 - (x0.1.size : Int))) - (x0.2.2.1.size : Int))) - (x0.2.2.2.1.size : Int))) - (x0.2.2.2.2.size : Int))) < 0)) (some (-1 : Int)) (some (w64 ((w64 ((w64 ((w64 (x1 - (x0.1.size : Int))) - (x0.2.2.1.size : Int))) - (x0.2.2.2.1.size : Int))) - (x0.2.2.2.2.size : Int))))))) := by kernel_rfl
theorem laws_szAffix.ok (k : Nat) : CsOk Try.prog Jp (laws_szAffix.C k) := .nil
theorem laws_szAffix.can : Can Try.prog 90 := can_of (fn := Try.f90) (by kernel_rfl) (by kernel_rfl) (by kernel_rfl)
theorem laws_szAffix.snd (k : Nat) : Snd Try.prog Jp 90 ⟨laws_szAffix.ps, laws_szAffix.rs, laws_szAffix.F k⟩ := snd_of E_ok laws_szAffix.ok mixed (fn := Try.f90) (by kernel_rfl) (by kernel_rfl) (by kernel_rfl) k
noncomputable def laws_szAffixS.C (k : Nat) : CEs := [(90, ⟨laws_szAffix.ps, laws_szAffix.rs, laws_szAffix.F k⟩)]
abbrev laws_szAffixS.ps : List Par := [⟨t23, .rd⟩, ⟨(.int .i64), .rd⟩]
abbrev laws_szAffixS.rs : List Res := [⟨(.int .i64), .ro, false⟩]
def laws_szAffixS.H : Heads := [(5, [(0, .ro), (1, .ro), (5, .ro)])]
noncomputable def laws_szAffixS.F : Nat → ProdT (laws_szAffixS.ps.map (·.τ)) → Option (ProdT (outs laws_szAffixS.ps laws_szAffixS.rs)) := evFn E laws_szAffixS.C laws_szAffixS.H Try.f48 laws_szAffixS.ps laws_szAffixS.rs
noncomputable def laws_szAffixS.L5 (k k1 : Nat) (x0 : List Aff) (x1 : Int) (x5 : Int) : Option (Int) := atL E laws_szAffixS.C laws_szAffixS.H Try.f48 laws_szAffixS.ps laws_szAffixS.rs [true, true, true, false, true, true] k [] k1 (sh 27 [(0, .d t23 x0 .ro), (1, .d (.int .i64) x1 .ro), (5, .d (.int .i64) x5 .ro)])
noncomputable def laws_szAffixS.f (k : Nat) (x0 : List Aff) (x1 : Int) : Option (Int) := laws_szAffixS.F k (x0, x1)
theorem laws_szAffixS.f_eq (k : Nat) (x0 : List Aff) (x1 : Int) : laws_szAffixS.f k x0 x1 = ifb (decide ((w64 (x1 - (x0.length : Int))) < 0)) (some (-1 : Int)) (laws_szAffixS.L5 k k x0 (w64 (x1 - (x0.length : Int))) (0 : Int)) := by kernel_rfl
theorem laws_szAffixS.L5_eq (k k1 : Nat) (x0 : List Aff) (x1 : Int) (x5 : Int) : laws_szAffixS.L5 k (k1 + 1) x0 x1 x5 = ifb (decide (x5 < (x0.length : Int))) (ifb (decide (0 ≤ x5) && decide (x5 < (x0.length : Int))) ((laws_szAffix.f k1 (x0.getD x5.toNat zA) x1).bind fun (r0 : Int) => ifb (decide (r0 < 0)) (some (-1 : Int)) (laws_szAffixS.L5 k k1 x0 r0 (w64 (x5 + 1)))) (none)) (some x1) := by kernel_rfl
theorem laws_szAffixS.ok (k : Nat) : CsOk Try.prog Jp (laws_szAffixS.C k) := .cons (laws_szAffix.snd k) laws_szAffix.can <| .nil
theorem laws_szAffixS.can : Can Try.prog 48 := can_of (fn := Try.f48) (by kernel_rfl) (by kernel_rfl) (by kernel_rfl)
theorem laws_szAffixS.snd (k : Nat) : Snd Try.prog Jp 48 ⟨laws_szAffixS.ps, laws_szAffixS.rs, laws_szAffixS.F k⟩ := snd_of E_ok laws_szAffixS.ok mixed (fn := Try.f48) (by kernel_rfl) (by kernel_rfl) (by kernel_rfl) k
noncomputable def laws_szEntry.C (k : Nat) : CEs := []
abbrev laws_szEntry.ps : List Par := [⟨t37, .rd⟩, ⟨(.int .i64), .rd⟩]
abbrev laws_szEntry.rs : List Res := [⟨(.int .i64), .ro, false⟩]
def laws_szEntry.H : Heads := []
noncomputable def laws_szEntry.F : Nat → ProdT (laws_szEntry.ps.map (·.τ)) → Option (ProdT (outs laws_szEntry.ps laws_szEntry.rs)) := evFn E laws_szEntry.C laws_szEntry.H Try.f91 laws_szEntry.ps laws_szEntry.rs
noncomputable def laws_szEntry.f (k : Nat) (x0 : ByteArray × ByteArray) (x1 : Int) : Option (Int) := laws_szEntry.F k (x0, x1)
theorem laws_szEntry.f_eq (k : Nat) (x0 : ByteArray × ByteArray) (x1 : Int) : laws_szEntry.f k x0 x1 = ifb (decide ((w64 (x1 - (x0.1.size : Int))) < 0)) (some (-1 : Int)) (ifb (decide ((w64 ((w64 (x1 - (x0.1.size : Int))) - (x0.2.size : Int))) < 0)) (some (-1 : Int)) (some (w64 ((w64 (x1 - (x0.1.size : Int))) - (x0.2.size : Int))))) := by kernel_rfl
theorem laws_szEntry.ok (k : Nat) : CsOk Try.prog Jp (laws_szEntry.C k) := .nil
theorem laws_szEntry.can : Can Try.prog 91 := can_of (fn := Try.f91) (by kernel_rfl) (by kernel_rfl) (by kernel_rfl)
theorem laws_szEntry.snd (k : Nat) : Snd Try.prog Jp 91 ⟨laws_szEntry.ps, laws_szEntry.rs, laws_szEntry.F k⟩ := snd_of E_ok laws_szEntry.ok mixed (fn := Try.f91) (by kernel_rfl) (by kernel_rfl) (by kernel_rfl) k
noncomputable def laws_szEntryS.C (k : Nat) : CEs := [(91, ⟨laws_szEntry.ps, laws_szEntry.rs, laws_szEntry.F k⟩)]
abbrev laws_szEntryS.ps : List Par := [⟨t24, .rd⟩, ⟨(.int .i64), .rd⟩]
abbrev laws_szEntryS.rs : List Res := [⟨(.int .i64), .ro, false⟩]
def laws_szEntryS.H : Heads := [(5, [(0, .ro), (1, .ro), (5, .ro)])]
noncomputable def laws_szEntryS.F : Nat → ProdT (laws_szEntryS.ps.map (·.τ)) → Option (ProdT (outs laws_szEntryS.ps laws_szEntryS.rs)) := evFn E laws_szEntryS.C laws_szEntryS.H Try.f49 laws_szEntryS.ps laws_szEntryS.rs
noncomputable def laws_szEntryS.L5 (k k1 : Nat) (x0 : List En) (x1 : Int) (x5 : Int) : Option (Int) := atL E laws_szEntryS.C laws_szEntryS.H Try.f49 laws_szEntryS.ps laws_szEntryS.rs [true, true, true, false, true, true] k [] k1 (sh 27 [(0, .d t24 x0 .ro), (1, .d (.int .i64) x1 .ro), (5, .d (.int .i64) x5 .ro)])
noncomputable def laws_szEntryS.f (k : Nat) (x0 : List En) (x1 : Int) : Option (Int) := laws_szEntryS.F k (x0, x1)
theorem laws_szEntryS.f_eq (k : Nat) (x0 : List En) (x1 : Int) : laws_szEntryS.f k x0 x1 = ifb (decide ((w64 (x1 - (x0.length : Int))) < 0)) (some (-1 : Int)) (laws_szEntryS.L5 k k x0 (w64 (x1 - (x0.length : Int))) (0 : Int)) := by kernel_rfl
theorem laws_szEntryS.L5_eq (k k1 : Nat) (x0 : List En) (x1 : Int) (x5 : Int) : laws_szEntryS.L5 k (k1 + 1) x0 x1 x5 = ifb (decide (x5 < (x0.length : Int))) (ifb (decide (0 ≤ x5) && decide (x5 < (x0.length : Int))) ((laws_szEntry.f k1 (x0.getD x5.toNat zE) x1).bind fun (r0 : Int) => ifb (decide (r0 < 0)) (some (-1 : Int)) (laws_szEntryS.L5 k k1 x0 r0 (w64 (x5 + 1)))) (none)) (some x1) := by kernel_rfl
theorem laws_szEntryS.ok (k : Nat) : CsOk Try.prog Jp (laws_szEntryS.C k) := .cons (laws_szEntry.snd k) laws_szEntry.can <| .nil
theorem laws_szEntryS.can : Can Try.prog 49 := can_of (fn := Try.f49) (by kernel_rfl) (by kernel_rfl) (by kernel_rfl)
theorem laws_szEntryS.snd (k : Nat) : Snd Try.prog Jp 49 ⟨laws_szEntryS.ps, laws_szEntryS.rs, laws_szEntryS.F k⟩ := snd_of E_ok laws_szEntryS.ok mixed (fn := Try.f49) (by kernel_rfl) (by kernel_rfl) (by kernel_rfl) k
noncomputable def laws_szBook.C (k : Nat) : CEs := [(48, ⟨laws_szAffixS.ps, laws_szAffixS.rs, laws_szAffixS.F k⟩), (49, ⟨laws_szEntryS.ps, laws_szEntryS.rs, laws_szEntryS.F k⟩)]
abbrev laws_szBook.ps : List Par := [⟨t25, .rd⟩, ⟨(.int .i64), .rd⟩]
abbrev laws_szBook.rs : List Res := [⟨(.int .i64), .ro, false⟩]
def laws_szBook.H : Heads := []
noncomputable def laws_szBook.F : Nat → ProdT (laws_szBook.ps.map (·.τ)) → Option (ProdT (outs laws_szBook.ps laws_szBook.rs)) := evFn E laws_szBook.C laws_szBook.H Try.f15 laws_szBook.ps laws_szBook.rs
noncomputable def laws_szBook.f (k : Nat) (x0 : Book) (x1 : Int) : Option (Int) := laws_szBook.F k (x0, x1)
theorem laws_szBook.f_eq (k : Nat) (x0 : Book) (x1 : Int) : laws_szBook.f k x0 x1 = (laws_szAffixS.f k x0.1 x1).bind fun (r0 : Int) => ifb (decide (r0 < 0)) (some (-1 : Int)) ((laws_szEntryS.f k x0.2 r0).bind fun (r1 : Int) => ifb (decide (r1 < 0)) (some (-1 : Int)) (some r1)) := by kernel_rfl
theorem laws_szBook.ok (k : Nat) : CsOk Try.prog Jp (laws_szBook.C k) := .cons (laws_szAffixS.snd k) laws_szAffixS.can <| .cons (laws_szEntryS.snd k) laws_szEntryS.can <| .nil
theorem laws_szBook.can : Can Try.prog 15 := can_of (fn := Try.f15) (by kernel_rfl) (by kernel_rfl) (by kernel_rfl)
theorem laws_szBook.snd (k : Nat) : Snd Try.prog Jp 15 ⟨laws_szBook.ps, laws_szBook.rs, laws_szBook.F k⟩ := snd_of E_ok laws_szBook.ok mixed (fn := Try.f15) (by kernel_rfl) (by kernel_rfl) (by kernel_rfl) k
noncomputable def laws_szStringS.C (k : Nat) : CEs := []
abbrev laws_szStringS.ps : List Par := [⟨(.row .str), .rd⟩, ⟨(.int .i64), .rd⟩]
abbrev laws_szStringS.rs : List Res := [⟨(.int .i64), .ro, false⟩]
def laws_szStringS.H : Heads := [(5, [(0, .ro), (1, .ro), (5, .ro)])]
noncomputable def laws_szStringS.F : Nat → ProdT (laws_szStringS.ps.map (·.τ)) → Option (ProdT (outs laws_szStringS.ps laws_szStringS.rs)) := evFn E laws_szStringS.C laws_szStringS.H Try.f50 laws_szStringS.ps laws_szStringS.rs
noncomputable def laws_szStringS.L5 (k k1 : Nat) (x0 : List ByteArray) (x1 : Int) (x5 : Int) : Option (Int) := atL E laws_szStringS.C laws_szStringS.H Try.f50 laws_szStringS.ps laws_szStringS.rs [true, true, true, false, true, true] k [] k1 (sh 28 [(0, .d (.row .str) x0 .ro), (1, .d (.int .i64) x1 .ro), (5, .d (.int .i64) x5 .ro)])
noncomputable def laws_szStringS.f (k : Nat) (x0 : List ByteArray) (x1 : Int) : Option (Int) := laws_szStringS.F k (x0, x1)
theorem laws_szStringS.f_eq (k : Nat) (x0 : List ByteArray) (x1 : Int) : laws_szStringS.f k x0 x1 = ifb (decide ((w64 (x1 - (x0.length : Int))) < 0)) (some (-1 : Int)) (laws_szStringS.L5 k k x0 (w64 (x1 - (x0.length : Int))) (0 : Int)) := by kernel_rfl
theorem laws_szStringS.L5_eq (k k1 : Nat) (x0 : List ByteArray) (x1 : Int) (x5 : Int) : laws_szStringS.L5 k (k1 + 1) x0 x1 x5 = ifb (decide (x5 < (x0.length : Int))) (ifb (decide (0 ≤ x5) && decide (x5 < (x0.length : Int))) (ifb (decide ((w64 (x1 - ((x0.getD x5.toNat bz).size : Int))) < 0)) (some (-1 : Int)) (laws_szStringS.L5 k k1 x0 (w64 (x1 - ((x0.getD x5.toNat bz).size : Int))) (w64 (x5 + 1)))) (none)) (some x1) := by kernel_rfl
theorem laws_szStringS.ok (k : Nat) : CsOk Try.prog Jp (laws_szStringS.C k) := .nil
theorem laws_szStringS.can : Can Try.prog 50 := can_of (fn := Try.f50) (by kernel_rfl) (by kernel_rfl) (by kernel_rfl)
theorem laws_szStringS.snd (k : Nat) : Snd Try.prog Jp 50 ⟨laws_szStringS.ps, laws_szStringS.rs, laws_szStringS.F k⟩ := snd_of E_ok laws_szStringS.ok mixed (fn := Try.f50) (by kernel_rfl) (by kernel_rfl) (by kernel_rfl) k
noncomputable def laws_szDelta.C (k : Nat) : CEs := [(48, ⟨laws_szAffixS.ps, laws_szAffixS.rs, laws_szAffixS.F k⟩), (49, ⟨laws_szEntryS.ps, laws_szEntryS.rs, laws_szEntryS.F k⟩), (50, ⟨laws_szStringS.ps, laws_szStringS.rs, laws_szStringS.F k⟩)]
abbrev laws_szDelta.ps : List Par := [⟨t28, .rd⟩, ⟨(.int .i64), .rd⟩]
abbrev laws_szDelta.rs : List Res := [⟨(.int .i64), .ro, false⟩]
def laws_szDelta.H : Heads := []
noncomputable def laws_szDelta.F : Nat → ProdT (laws_szDelta.ps.map (·.τ)) → Option (ProdT (outs laws_szDelta.ps laws_szDelta.rs)) := evFn E laws_szDelta.C laws_szDelta.H Try.f16 laws_szDelta.ps laws_szDelta.rs
noncomputable def laws_szDelta.f (k : Nat) (x0 : Delta) (x1 : Int) : Option (Int) := laws_szDelta.F k (x0, x1)
theorem laws_szDelta.f_eq (k : Nat) (x0 : Delta) (x1 : Int) : laws_szDelta.f k x0 x1 = (laws_szStringS.f k x0.1 x1).bind fun (r0 : Int) => ifb (decide (r0 < 0)) (some (-1 : Int)) ((laws_szEntryS.f k x0.2.1 r0).bind fun (r1 : Int) => ifb (decide (r1 < 0)) (some (-1 : Int)) ((laws_szAffixS.f k x0.2.2.2 r1).bind fun (r2 : Int) => ifb (decide (r2 < 0)) (some (-1 : Int)) (some r2))) := by kernel_rfl
theorem laws_szDelta.ok (k : Nat) : CsOk Try.prog Jp (laws_szDelta.C k) := .cons (laws_szAffixS.snd k) laws_szAffixS.can <| .cons (laws_szEntryS.snd k) laws_szEntryS.can <| .cons (laws_szStringS.snd k) laws_szStringS.can <| .nil
theorem laws_szDelta.can : Can Try.prog 16 := can_of (fn := Try.f16) (by kernel_rfl) (by kernel_rfl) (by kernel_rfl)
theorem laws_szDelta.snd (k : Nat) : Snd Try.prog Jp 16 ⟨laws_szDelta.ps, laws_szDelta.rs, laws_szDelta.F k⟩ := snd_of E_ok laws_szDelta.ok mixed (fn := Try.f16) (by kernel_rfl) (by kernel_rfl) (by kernel_rfl) k
noncomputable def laws_toAffix.C (k : Nat) : CEs := []
abbrev laws_toAffix.ps : List Par := [⟨t71, .rd⟩]
abbrev laws_toAffix.rs : List Res := [⟨t71, .ro, false⟩]
def laws_toAffix.H : Heads := []
noncomputable def laws_toAffix.F : Nat → ProdT (laws_toAffix.ps.map (·.τ)) → Option (ProdT (outs laws_toAffix.ps laws_toAffix.rs)) := evFn E laws_toAffix.C laws_toAffix.H Try.f92 laws_toAffix.ps laws_toAffix.rs
noncomputable def laws_toAffix.f (k : Nat) (x0 : Aff) : Option (Aff) := laws_toAffix.F k x0
theorem laws_toAffix.f_eq (k : Nat) (x0 : Aff) : laws_toAffix.f k x0 = some (x0.1, x0.2.1, x0.2.2.1, x0.2.2.2.1, x0.2.2.2.2) := by kernel_rfl
theorem laws_toAffix.ok (k : Nat) : CsOk Try.prog Jp (laws_toAffix.C k) := .nil
theorem laws_toAffix.can : Can Try.prog 92 := can_of (fn := Try.f92) (by kernel_rfl) (by kernel_rfl) (by kernel_rfl)
theorem laws_toAffix.snd (k : Nat) : Snd Try.prog Jp 92 ⟨laws_toAffix.ps, laws_toAffix.rs, laws_toAffix.F k⟩ := snd_of E_ok laws_toAffix.ok mixed (fn := Try.f92) (by kernel_rfl) (by kernel_rfl) (by kernel_rfl) k
noncomputable def laws_toAffixS.C (k : Nat) : CEs := [(92, ⟨laws_toAffix.ps, laws_toAffix.rs, laws_toAffix.F k⟩)]
abbrev laws_toAffixS.ps : List Par := [⟨t23, .rd⟩]
abbrev laws_toAffixS.rs : List Res := [⟨t23, (.own .ro), false⟩]
def laws_toAffixS.H : Heads := [(3, [(0, .ro), (3, (.own .ro)), (4, .ro)])]
noncomputable def laws_toAffixS.F : Nat → ProdT (laws_toAffixS.ps.map (·.τ)) → Option (ProdT (outs laws_toAffixS.ps laws_toAffixS.rs)) := evFn E laws_toAffixS.C laws_toAffixS.H Try.f51 laws_toAffixS.ps laws_toAffixS.rs
noncomputable def laws_toAffixS.L3 (k k1 : Nat) (x0 : List Aff) (x3 : List Aff) (x4 : Int) : Option (List Aff) := atL E laws_toAffixS.C laws_toAffixS.H Try.f51 laws_toAffixS.ps laws_toAffixS.rs [true, true, false, true, true] k [] k1 (sh 23 [(0, .d t23 x0 .ro), (3, .d t23 x3 (.own .ro)), (4, .d (.int .i64) x4 .ro)])
noncomputable def laws_toAffixS.f (k : Nat) (x0 : List Aff) : Option (List Aff) := laws_toAffixS.F k x0
theorem laws_toAffixS.f_eq (k : Nat) (x0 : List Aff) : laws_toAffixS.f k x0 = ifb (decide (0 ≤ (x0.length : Int)) && (decide ((x0.length : Int) ≤ (x0.length : Int)) && decide ((x0.length : Int) * 72 ≤ (rowMax : Int)))) (laws_toAffixS.L3 k k x0 (List.replicate (x0.length : Int).toNat zA) (0 : Int)) (none) := by kernel_rfl
theorem laws_toAffixS.L3_eq (k k1 : Nat) (x0 : List Aff) (x3 : List Aff) (x4 : Int) : laws_toAffixS.L3 k (k1 + 1) x0 x3 x4 = ifb (decide (x4 < (x0.length : Int))) (ifb (decide (0 ≤ x4) && decide (x4 < (x0.length : Int))) ((laws_toAffix.f k1 (x0.getD x4.toNat zA)).bind fun (r0 : Aff) => ifb (decide (0 ≤ x4) && decide (x4 < (x3.length : Int))) (laws_toAffixS.L3 k k1 x0 (x3.set x4.toNat r0) (w64 (x4 + 1))) (none)) (none)) (some x3) := by kernel_rfl
theorem laws_toAffixS.ok (k : Nat) : CsOk Try.prog Jp (laws_toAffixS.C k) := .cons (laws_toAffix.snd k) laws_toAffix.can <| .nil
theorem laws_toAffixS.can : Can Try.prog 51 := can_of (fn := Try.f51) (by kernel_rfl) (by kernel_rfl) (by kernel_rfl)
theorem laws_toAffixS.snd (k : Nat) : Snd Try.prog Jp 51 ⟨laws_toAffixS.ps, laws_toAffixS.rs, laws_toAffixS.F k⟩ := snd_of E_ok laws_toAffixS.ok mixed (fn := Try.f51) (by kernel_rfl) (by kernel_rfl) (by kernel_rfl) k
noncomputable def laws_toEntry.C (k : Nat) : CEs := []
abbrev laws_toEntry.ps : List Par := [⟨t37, .rd⟩]
abbrev laws_toEntry.rs : List Res := [⟨t37, .ro, false⟩]
def laws_toEntry.H : Heads := []
noncomputable def laws_toEntry.F : Nat → ProdT (laws_toEntry.ps.map (·.τ)) → Option (ProdT (outs laws_toEntry.ps laws_toEntry.rs)) := evFn E laws_toEntry.C laws_toEntry.H Try.f93 laws_toEntry.ps laws_toEntry.rs
noncomputable def laws_toEntry.f (k : Nat) (x0 : ByteArray × ByteArray) : Option En := laws_toEntry.F k x0
theorem laws_toEntry.f_eq (k : Nat) (x0 : ByteArray × ByteArray) : laws_toEntry.f k x0 = some (x0.1, x0.2) := by kernel_rfl
theorem laws_toEntry.ok (k : Nat) : CsOk Try.prog Jp (laws_toEntry.C k) := .nil
theorem laws_toEntry.can : Can Try.prog 93 := can_of (fn := Try.f93) (by kernel_rfl) (by kernel_rfl) (by kernel_rfl)
theorem laws_toEntry.snd (k : Nat) : Snd Try.prog Jp 93 ⟨laws_toEntry.ps, laws_toEntry.rs, laws_toEntry.F k⟩ := snd_of E_ok laws_toEntry.ok mixed (fn := Try.f93) (by kernel_rfl) (by kernel_rfl) (by kernel_rfl) k
noncomputable def laws_toEntryS.C (k : Nat) : CEs := [(93, ⟨laws_toEntry.ps, laws_toEntry.rs, laws_toEntry.F k⟩)]
abbrev laws_toEntryS.ps : List Par := [⟨t24, .rd⟩]
abbrev laws_toEntryS.rs : List Res := [⟨t24, (.own .ro), false⟩]
def laws_toEntryS.H : Heads := [(3, [(0, .ro), (3, (.own .ro)), (4, .ro)])]
noncomputable def laws_toEntryS.F : Nat → ProdT (laws_toEntryS.ps.map (·.τ)) → Option (ProdT (outs laws_toEntryS.ps laws_toEntryS.rs)) := evFn E laws_toEntryS.C laws_toEntryS.H Try.f52 laws_toEntryS.ps laws_toEntryS.rs
noncomputable def laws_toEntryS.L3 (k k1 : Nat) (x0 : List En) (x3 : List En) (x4 : Int) : Option (List En) := atL E laws_toEntryS.C laws_toEntryS.H Try.f52 laws_toEntryS.ps laws_toEntryS.rs [true, true, false, true, true] k [] k1 (sh 23 [(0, .d t24 x0 .ro), (3, .d t24 x3 (.own .ro)), (4, .d (.int .i64) x4 .ro)])
noncomputable def laws_toEntryS.f (k : Nat) (x0 : List En) : Option (List En) := laws_toEntryS.F k x0
theorem laws_toEntryS.f_eq (k : Nat) (x0 : List En) : laws_toEntryS.f k x0 = ifb (decide (0 ≤ (x0.length : Int)) && (decide ((x0.length : Int) ≤ (x0.length : Int)) && decide ((x0.length : Int) * 32 ≤ (rowMax : Int)))) (laws_toEntryS.L3 k k x0 (List.replicate (x0.length : Int).toNat zE) (0 : Int)) (none) := by kernel_rfl
theorem laws_toEntryS.L3_eq (k k1 : Nat) (x0 : List En) (x3 : List En) (x4 : Int) : laws_toEntryS.L3 k (k1 + 1) x0 x3 x4 = ifb (decide (x4 < (x0.length : Int))) (ifb (decide (0 ≤ x4) && decide (x4 < (x0.length : Int))) ((laws_toEntry.f k1 (x0.getD x4.toNat zE)).bind fun (r0 : ByteArray × ByteArray) => ifb (decide (0 ≤ x4) && decide (x4 < (x3.length : Int))) (laws_toEntryS.L3 k k1 x0 (x3.set x4.toNat r0) (w64 (x4 + 1))) (none)) (none)) (some x3) := by kernel_rfl
theorem laws_toEntryS.ok (k : Nat) : CsOk Try.prog Jp (laws_toEntryS.C k) := .cons (laws_toEntry.snd k) laws_toEntry.can <| .nil
theorem laws_toEntryS.can : Can Try.prog 52 := can_of (fn := Try.f52) (by kernel_rfl) (by kernel_rfl) (by kernel_rfl)
theorem laws_toEntryS.snd (k : Nat) : Snd Try.prog Jp 52 ⟨laws_toEntryS.ps, laws_toEntryS.rs, laws_toEntryS.F k⟩ := snd_of E_ok laws_toEntryS.ok mixed (fn := Try.f52) (by kernel_rfl) (by kernel_rfl) (by kernel_rfl) k
noncomputable def laws_toBook.C (k : Nat) : CEs := [(51, ⟨laws_toAffixS.ps, laws_toAffixS.rs, laws_toAffixS.F k⟩), (52, ⟨laws_toEntryS.ps, laws_toEntryS.rs, laws_toEntryS.F k⟩)]
abbrev laws_toBook.ps : List Par := [⟨t25, .rd⟩]
abbrev laws_toBook.rs : List Res := [⟨t25, (.pr (.own .ro) (.own .ro)), false⟩]
def laws_toBook.H : Heads := []
noncomputable def laws_toBook.F : Nat → ProdT (laws_toBook.ps.map (·.τ)) → Option (ProdT (outs laws_toBook.ps laws_toBook.rs)) := evFn E laws_toBook.C laws_toBook.H Try.f17 laws_toBook.ps laws_toBook.rs
noncomputable def laws_toBook.f (k : Nat) (x0 : Book) : Option Book := laws_toBook.F k x0
theorem laws_toBook.f_eq (k : Nat) (x0 : Book) : laws_toBook.f k x0 = (laws_toAffixS.f k x0.1).bind fun (r0 : List Aff) => (laws_toEntryS.f k x0.2).bind fun (r1 : List En) => some (r0, r1) := by kernel_rfl
theorem laws_toBook.ok (k : Nat) : CsOk Try.prog Jp (laws_toBook.C k) := .cons (laws_toAffixS.snd k) laws_toAffixS.can <| .cons (laws_toEntryS.snd k) laws_toEntryS.can <| .nil
theorem laws_toBook.can : Can Try.prog 17 := can_of (fn := Try.f17) (by kernel_rfl) (by kernel_rfl) (by kernel_rfl)
theorem laws_toBook.snd (k : Nat) : Snd Try.prog Jp 17 ⟨laws_toBook.ps, laws_toBook.rs, laws_toBook.F k⟩ := snd_of E_ok laws_toBook.ok mixed (fn := Try.f17) (by kernel_rfl) (by kernel_rfl) (by kernel_rfl) k
noncomputable def laws_toStringS.C (k : Nat) : CEs := []
abbrev laws_toStringS.ps : List Par := [⟨(.row .str), .rd⟩]
abbrev laws_toStringS.rs : List Res := [⟨(.row .str), (.own .ro), false⟩]
def laws_toStringS.H : Heads := [(3, [(0, .ro), (3, (.own .ro)), (4, .ro)])]
noncomputable def laws_toStringS.F : Nat → ProdT (laws_toStringS.ps.map (·.τ)) → Option (ProdT (outs laws_toStringS.ps laws_toStringS.rs)) := evFn E laws_toStringS.C laws_toStringS.H Try.f53 laws_toStringS.ps laws_toStringS.rs
noncomputable def laws_toStringS.L3 (k k1 : Nat) (x0 : List ByteArray) (x3 : List ByteArray) (x4 : Int) : Option (List ByteArray) := atL E laws_toStringS.C laws_toStringS.H Try.f53 laws_toStringS.ps laws_toStringS.rs [true, true, false, true, true] k [] k1 (sh 22 [(0, .d (.row .str) x0 .ro), (3, .d (.row .str) x3 (.own .ro)), (4, .d (.int .i64) x4 .ro)])
noncomputable def laws_toStringS.f (k : Nat) (x0 : List ByteArray) : Option (List ByteArray) := laws_toStringS.F k x0
theorem laws_toStringS.f_eq (k : Nat) (x0 : List ByteArray) : laws_toStringS.f k x0 = ifb (decide (0 ≤ (x0.length : Int)) && (decide ((x0.length : Int) ≤ (x0.length : Int)) && decide ((x0.length : Int) * 16 ≤ (rowMax : Int)))) (laws_toStringS.L3 k k x0 (List.replicate (x0.length : Int).toNat bz) (0 : Int)) (none) := by kernel_rfl
theorem laws_toStringS.L3_eq (k k1 : Nat) (x0 : List ByteArray) (x3 : List ByteArray) (x4 : Int) : laws_toStringS.L3 k (k1 + 1) x0 x3 x4 = ifb (decide (x4 < (x0.length : Int))) (ifb (decide (0 ≤ x4) && decide (x4 < (x0.length : Int))) (ifb (decide (0 ≤ x4) && decide (x4 < (x3.length : Int))) (laws_toStringS.L3 k k1 x0 (x3.set x4.toNat (x0.getD x4.toNat bz)) (w64 (x4 + 1))) (none)) (none)) (some x3) := by kernel_rfl
theorem laws_toStringS.ok (k : Nat) : CsOk Try.prog Jp (laws_toStringS.C k) := .nil
theorem laws_toStringS.can : Can Try.prog 53 := can_of (fn := Try.f53) (by kernel_rfl) (by kernel_rfl) (by kernel_rfl)
theorem laws_toStringS.snd (k : Nat) : Snd Try.prog Jp 53 ⟨laws_toStringS.ps, laws_toStringS.rs, laws_toStringS.F k⟩ := snd_of E_ok laws_toStringS.ok mixed (fn := Try.f53) (by kernel_rfl) (by kernel_rfl) (by kernel_rfl) k
noncomputable def laws_toDelta.C (k : Nat) : CEs := [(51, ⟨laws_toAffixS.ps, laws_toAffixS.rs, laws_toAffixS.F k⟩), (52, ⟨laws_toEntryS.ps, laws_toEntryS.rs, laws_toEntryS.F k⟩), (53, ⟨laws_toStringS.ps, laws_toStringS.rs, laws_toStringS.F k⟩)]
abbrev laws_toDelta.ps : List Par := [⟨t28, .rd⟩]
abbrev laws_toDelta.rs : List Res := [⟨t28, (.pr (.own .ro) (.pr (.own .ro) (.pr .ro (.own .ro)))), false⟩]
def laws_toDelta.H : Heads := []
noncomputable def laws_toDelta.F : Nat → ProdT (laws_toDelta.ps.map (·.τ)) → Option (ProdT (outs laws_toDelta.ps laws_toDelta.rs)) := evFn E laws_toDelta.C laws_toDelta.H Try.f18 laws_toDelta.ps laws_toDelta.rs
noncomputable def laws_toDelta.f (k : Nat) (x0 : Delta) : Option Delta := laws_toDelta.F k x0
theorem laws_toDelta.f_eq (k : Nat) (x0 : Delta) : laws_toDelta.f k x0 = (laws_toStringS.f k x0.1).bind fun (r0 : List ByteArray) => (laws_toEntryS.f k x0.2.1).bind fun (r1 : List En) => (laws_toAffixS.f k x0.2.2.2).bind fun (r2 : List Aff) => some (r0, r1, x0.2.2.1, r2) := by kernel_rfl
theorem laws_toDelta.ok (k : Nat) : CsOk Try.prog Jp (laws_toDelta.C k) := .cons (laws_toAffixS.snd k) laws_toAffixS.can <| .cons (laws_toEntryS.snd k) laws_toEntryS.can <| .cons (laws_toStringS.snd k) laws_toStringS.can <| .nil
theorem laws_toDelta.can : Can Try.prog 18 := can_of (fn := Try.f18) (by kernel_rfl) (by kernel_rfl) (by kernel_rfl)
theorem laws_toDelta.snd (k : Nat) : Snd Try.prog Jp 18 ⟨laws_toDelta.ps, laws_toDelta.rs, laws_toDelta.F k⟩ := snd_of E_ok laws_toDelta.ok mixed (fn := Try.f18) (by kernel_rfl) (by kernel_rfl) (by kernel_rfl) k
noncomputable def spec_l2Flag.C (k : Nat) : CEs := []
abbrev spec_l2Flag.ps : List Par := [⟨.str, .rd⟩]
abbrev spec_l2Flag.rs : List Res := [⟨.bool, .ro, false⟩]
def spec_l2Flag.H : Heads := []
noncomputable def spec_l2Flag.F : Nat → ProdT (spec_l2Flag.ps.map (·.τ)) → Option (ProdT (outs spec_l2Flag.ps spec_l2Flag.rs)) := evFn E spec_l2Flag.C spec_l2Flag.H Try.f89 spec_l2Flag.ps spec_l2Flag.rs
noncomputable def spec_l2Flag.f (k : Nat) (x0 : ByteArray) : Option (Bool) := spec_l2Flag.F k x0
theorem spec_l2Flag.f_eq (k : Nat) (x0 : ByteArray) : spec_l2Flag.f k x0 = ifb ((x0.size : Int) == (1 : Int)) (ifb (decide (0 ≤ (0 : Int)) && decide ((0 : Int) < (x0.size : Int))) (ifb (decide ((byteAt x0 (0 : Int)) ≥ (65 : Int))) (ifb (decide (0 ≤ (0 : Int)) && decide ((0 : Int) < (x0.size : Int))) (some (decide ((byteAt x0 (0 : Int)) ≤ (90 : Int)))) (none)) (some false)) (none)) (some false) := by kernel_rfl
theorem spec_l2Flag.ok (k : Nat) : CsOk Try.prog Jp (spec_l2Flag.C k) := .nil
theorem spec_l2Flag.can : Can Try.prog 89 := can_of (fn := Try.f89) (by kernel_rfl) (by kernel_rfl) (by kernel_rfl)
theorem spec_l2Flag.snd (k : Nat) : Snd Try.prog Jp 89 ⟨spec_l2Flag.ps, spec_l2Flag.rs, spec_l2Flag.F k⟩ := snd_of E_ok spec_l2Flag.ok mixed (fn := Try.f89) (by kernel_rfl) (by kernel_rfl) (by kernel_rfl) k
noncomputable def spec_l1Letters.C (k : Nat) : CEs := []
abbrev spec_l1Letters.ps : List Par := [⟨.str, .rd⟩, ⟨(.int .i64), .rd⟩]
abbrev spec_l1Letters.rs : List Res := [⟨.bool, .ro, false⟩]
def spec_l1Letters.H : Heads := [(2, [(0, .ro), (1, .ro), (5, .ro)])]
noncomputable def spec_l1Letters.F : Nat → ProdT (spec_l1Letters.ps.map (·.τ)) → Option (ProdT (outs spec_l1Letters.ps spec_l1Letters.rs)) := evFn E spec_l1Letters.C spec_l1Letters.H Try.f87 spec_l1Letters.ps spec_l1Letters.rs
noncomputable def spec_l1Letters.L2 (k k1 : Nat) (x0 : ByteArray) (x1 : Int) (x5 : Int) : Option (Bool) := atL E spec_l1Letters.C spec_l1Letters.H Try.f87 spec_l1Letters.ps spec_l1Letters.rs [true, false, true, true] k [] k1 (sh 26 [(0, .d .str x0 .ro), (1, .d (.int .i64) x1 .ro), (5, .d (.int .i64) x5 .ro)])
noncomputable def spec_l1Letters.f (k : Nat) (x0 : ByteArray) (x1 : Int) : Option (Bool) := spec_l1Letters.F k (x0, x1)
theorem spec_l1Letters.f_eq (k : Nat) (x0 : ByteArray) (x1 : Int) : spec_l1Letters.f k x0 x1 = spec_l1Letters.L2 k k x0 x1 (0 : Int) := by kernel_rfl
theorem spec_l1Letters.L2_eq (k k1 : Nat) (x0 : ByteArray) (x1 : Int) (x5 : Int) : spec_l1Letters.L2 k (k1 + 1) x0 x1 x5 = ifb (decide (x5 < (x0.size : Int))) (ifb (decide (0 ≤ x5) && decide (x5 < (x0.size : Int))) (ifb (decide ((byteAt x0 x5) < (97 : Int))) (some false) (ifb (decide (0 ≤ x5) && decide (x5 < (x0.size : Int))) (ifb (decide ((byteAt x0 x5) > (122 : Int))) (some false) (spec_l1Letters.L2 k k1 x0 x1 (w64 (x5 + 1)))) (none))) (none)) (some (decide ((x0.size : Int) ≤ x1))) := by kernel_rfl
theorem spec_l1Letters.ok (k : Nat) : CsOk Try.prog Jp (spec_l1Letters.C k) := .nil
theorem spec_l1Letters.can : Can Try.prog 87 := can_of (fn := Try.f87) (by kernel_rfl) (by kernel_rfl) (by kernel_rfl)
theorem spec_l1Letters.snd (k : Nat) : Snd Try.prog Jp 87 ⟨spec_l1Letters.ps, spec_l1Letters.rs, spec_l1Letters.F k⟩ := snd_of E_ok spec_l1Letters.ok mixed (fn := Try.f87) (by kernel_rfl) (by kernel_rfl) (by kernel_rfl) k
noncomputable def spec_l1Word.C (k : Nat) : CEs := [(87, ⟨spec_l1Letters.ps, spec_l1Letters.rs, spec_l1Letters.F k⟩)]
abbrev spec_l1Word.ps : List Par := [⟨.str, .rd⟩]
abbrev spec_l1Word.rs : List Res := [⟨.bool, .ro, false⟩]
def spec_l1Word.H : Heads := []
noncomputable def spec_l1Word.F : Nat → ProdT (spec_l1Word.ps.map (·.τ)) → Option (ProdT (outs spec_l1Word.ps spec_l1Word.rs)) := evFn E spec_l1Word.C spec_l1Word.H Try.f44 spec_l1Word.ps spec_l1Word.rs
noncomputable def spec_l1Word.f (k : Nat) (x0 : ByteArray) : Option (Bool) := spec_l1Word.F k x0
theorem spec_l1Word.f_eq (k : Nat) (x0 : ByteArray) : spec_l1Word.f k x0 = ifb (decide ((x0.size : Int) > 0)) ((spec_l1Letters.f k x0 (12 : Int)).bind fun (r0 : Bool) => some r0) (some false) := by kernel_rfl
theorem spec_l1Word.ok (k : Nat) : CsOk Try.prog Jp (spec_l1Word.C k) := .cons (spec_l1Letters.snd k) spec_l1Letters.can <| .nil
theorem spec_l1Word.can : Can Try.prog 44 := can_of (fn := Try.f44) (by kernel_rfl) (by kernel_rfl) (by kernel_rfl)
theorem spec_l1Word.snd (k : Nat) : Snd Try.prog Jp 44 ⟨spec_l1Word.ps, spec_l1Word.rs, spec_l1Word.F k⟩ := snd_of E_ok spec_l1Word.ok mixed (fn := Try.f44) (by kernel_rfl) (by kernel_rfl) (by kernel_rfl) k
noncomputable def spec_l2Entry.C (k : Nat) : CEs := [(89, ⟨spec_l2Flag.ps, spec_l2Flag.rs, spec_l2Flag.F k⟩), (44, ⟨spec_l1Word.ps, spec_l1Word.rs, spec_l1Word.F k⟩)]
abbrev spec_l2Entry.ps : List Par := [⟨t37, .rd⟩]
abbrev spec_l2Entry.rs : List Res := [⟨.bool, .ro, false⟩]
def spec_l2Entry.H : Heads := [(2, [(1, .ro), (3, .ro)])]
noncomputable def spec_l2Entry.F : Nat → ProdT (spec_l2Entry.ps.map (·.τ)) → Option (ProdT (outs spec_l2Entry.ps spec_l2Entry.rs)) := evFn E spec_l2Entry.C spec_l2Entry.H Try.f47 spec_l2Entry.ps spec_l2Entry.rs
noncomputable def spec_l2Entry.L2 (k k1 : Nat) (x1 : ByteArray × ByteArray) (x3 : Int) : Option (Bool) := atL E spec_l2Entry.C spec_l2Entry.H Try.f47 spec_l2Entry.ps spec_l2Entry.rs [true, false, true, true] k [] k1 (sh 44 [(1, .box t37 x1 .ro none), (3, .d (.int .i64) x3 .ro)])
noncomputable def spec_l2Entry.f (k : Nat) (x0 : ByteArray × ByteArray) : Option (Bool) := spec_l2Entry.F k x0
theorem spec_l2Entry.f_eq (k : Nat) (x0 : ByteArray × ByteArray) : spec_l2Entry.f k x0 = spec_l2Entry.L2 k k x0 (0 : Int) := by kernel_rfl
theorem spec_l2Entry.L2_eq (k k1 : Nat) (x1 : ByteArray × ByteArray) (x3 : Int) : spec_l2Entry.L2 k (k1 + 1) x1 x3 = ifb (decide (x3 < (x1.2.size : Int))) (ifb (decide (0 ≤ x3) && (decide (x3 ≤ (w64 (x3 + 1))) && decide ((w64 (x3 + 1)) ≤ (x1.2.size : Int)))) ((spec_l2Flag.f k1 (x1.2.extract x3.toNat (w64 (x3 + 1)).toNat)).bind fun (r0 : Bool) => ifb (!r0) (some false) (ifb (decide (x3 > 0)) (ifb (decide (0 ≤ (w64 (x3 - 1))) && decide ((w64 (x3 - 1)) < (x1.2.size : Int))) (ifb (decide (0 ≤ x3) && decide (x3 < (x1.2.size : Int))) (ifb (decide ((byteAt x1.2 (w64 (x3 - 1))) ≥ (byteAt x1.2 x3))) (some false) (spec_l2Entry.L2 k k1 x1 (w64 (x3 + 1)))) (none)) (none)) (spec_l2Entry.L2 k k1 x1 (w64 (x3 + 1))))) (none)) ((spec_l1Word.f k x1.1).bind fun (r1 : Bool) => ifb r1 (some (decide ((x1.2.size : Int) ≤ (4 : Int)))) (some false)) := by kernel_rfl
theorem spec_l2Entry.ok (k : Nat) : CsOk Try.prog Jp (spec_l2Entry.C k) := .cons (spec_l2Flag.snd k) spec_l2Flag.can <| .cons (spec_l1Word.snd k) spec_l1Word.can <| .nil
theorem spec_l2Entry.can : Can Try.prog 47 := can_of (fn := Try.f47) (by kernel_rfl) (by kernel_rfl) (by kernel_rfl)
theorem spec_l2Entry.snd (k : Nat) : Snd Try.prog Jp 47 ⟨spec_l2Entry.ps, spec_l2Entry.rs, spec_l2Entry.F k⟩ := snd_of E_ok spec_l2Entry.ok mixed (fn := Try.f47) (by kernel_rfl) (by kernel_rfl) (by kernel_rfl) k
noncomputable def spec_l2Begins.C (k : Nat) : CEs := []
abbrev spec_l2Begins.ps : List Par := [⟨.str, .rd⟩, ⟨.str, .rd⟩]
abbrev spec_l2Begins.rs : List Res := [⟨.bool, .ro, false⟩]
def spec_l2Begins.H : Heads := []
noncomputable def spec_l2Begins.F : Nat → ProdT (spec_l2Begins.ps.map (·.τ)) → Option (ProdT (outs spec_l2Begins.ps spec_l2Begins.rs)) := evFn E spec_l2Begins.C spec_l2Begins.H Try.f110 spec_l2Begins.ps spec_l2Begins.rs
noncomputable def spec_l2Begins.f (k : Nat) (x0 : ByteArray) (x1 : ByteArray) : Option (Bool) := spec_l2Begins.F k (x0, x1)
theorem spec_l2Begins.f_eq (k : Nat) (x0 : ByteArray) (x1 : ByteArray) : spec_l2Begins.f k x0 x1 = ifb (decide ((x0.size : Int) ≥ (x1.size : Int))) (ifb (decide (0 ≤ (0 : Int)) && (decide ((0 : Int) ≤ (x1.size : Int)) && decide ((x1.size : Int) ≤ (x0.size : Int)))) (some ((x0.extract (0 : Int).toNat (x1.size : Int).toNat).toList == x1.toList)) (none)) (some false) := by kernel_rfl
theorem spec_l2Begins.ok (k : Nat) : CsOk Try.prog Jp (spec_l2Begins.C k) := .nil
theorem spec_l2Begins.can : Can Try.prog 110 := can_of (fn := Try.f110) (by kernel_rfl) (by kernel_rfl) (by kernel_rfl)
theorem spec_l2Begins.snd (k : Nat) : Snd Try.prog Jp 110 ⟨spec_l2Begins.ps, spec_l2Begins.rs, spec_l2Begins.F k⟩ := snd_of E_ok spec_l2Begins.ok mixed (fn := Try.f110) (by kernel_rfl) (by kernel_rfl) (by kernel_rfl) k
noncomputable def spec_l2Ends.C (k : Nat) : CEs := []
abbrev spec_l2Ends.ps : List Par := [⟨.str, .rd⟩, ⟨.str, .rd⟩]
abbrev spec_l2Ends.rs : List Res := [⟨.bool, .ro, false⟩]
def spec_l2Ends.H : Heads := []
noncomputable def spec_l2Ends.F : Nat → ProdT (spec_l2Ends.ps.map (·.τ)) → Option (ProdT (outs spec_l2Ends.ps spec_l2Ends.rs)) := evFn E spec_l2Ends.C spec_l2Ends.H Try.f111 spec_l2Ends.ps spec_l2Ends.rs
noncomputable def spec_l2Ends.f (k : Nat) (x0 : ByteArray) (x1 : ByteArray) : Option (Bool) := spec_l2Ends.F k (x0, x1)
theorem spec_l2Ends.f_eq (k : Nat) (x0 : ByteArray) (x1 : ByteArray) : spec_l2Ends.f k x0 x1 = ifb (decide ((x0.size : Int) ≥ (x1.size : Int))) (ifb (decide (0 ≤ (w64 ((x0.size : Int) - (x1.size : Int)))) && (decide ((w64 ((x0.size : Int) - (x1.size : Int))) ≤ (x0.size : Int)) && decide ((x0.size : Int) ≤ (x0.size : Int)))) (some ((x0.extract (w64 ((x0.size : Int) - (x1.size : Int))).toNat (x0.size : Int).toNat).toList == x1.toList)) (none)) (some false) := by kernel_rfl
theorem spec_l2Ends.ok (k : Nat) : CsOk Try.prog Jp (spec_l2Ends.C k) := .nil
theorem spec_l2Ends.can : Can Try.prog 111 := can_of (fn := Try.f111) (by kernel_rfl) (by kernel_rfl) (by kernel_rfl)
theorem spec_l2Ends.snd (k : Nat) : Snd Try.prog Jp 111 ⟨spec_l2Ends.ps, spec_l2Ends.rs, spec_l2Ends.F k⟩ := snd_of E_ok spec_l2Ends.ok mixed (fn := Try.f111) (by kernel_rfl) (by kernel_rfl) (by kernel_rfl) k
noncomputable def spec_AffixOk.C (k : Nat) : CEs := [(89, ⟨spec_l2Flag.ps, spec_l2Flag.rs, spec_l2Flag.F k⟩), (87, ⟨spec_l1Letters.ps, spec_l1Letters.rs, spec_l1Letters.F k⟩), (110, ⟨spec_l2Begins.ps, spec_l2Begins.rs, spec_l2Begins.F k⟩), (111, ⟨spec_l2Ends.ps, spec_l2Ends.rs, spec_l2Ends.F k⟩)]
abbrev spec_AffixOk.ps : List Par := [⟨t71, .rd⟩]
abbrev spec_AffixOk.rs : List Res := [⟨.bool, .ro, false⟩]
def spec_AffixOk.H : Heads := []
noncomputable def spec_AffixOk.F : Nat → ProdT (spec_AffixOk.ps.map (·.τ)) → Option (ProdT (outs spec_AffixOk.ps spec_AffixOk.rs)) := evFn E spec_AffixOk.C spec_AffixOk.H Try.f88 spec_AffixOk.ps spec_AffixOk.rs
noncomputable def spec_AffixOk.f (k : Nat) (x0 : Aff) : Option (Bool) := spec_AffixOk.F k x0
theorem spec_AffixOk.f_eq (k : Nat) (x0 : Aff) : spec_AffixOk.f k x0 = (spec_l2Flag.f k x0.1).bind fun (r0 : Bool) => ifb (!r0) (some false) ((spec_l1Letters.f k x0.2.2.1 (4 : Int)).bind fun (r1 : Bool) => ifb (!r1) (some false) ((spec_l1Letters.f k x0.2.2.2.1 (4 : Int)).bind fun (r2 : Bool) => ifb (!r2) (some false) ((spec_l1Letters.f k x0.2.2.2.2 (4 : Int)).bind fun (r3 : Bool) => ifb (!r3) (some false) (ifb x0.2.1 ((spec_l2Begins.f k x0.2.2.2.2 x0.2.2.1).bind fun (r4 : Bool) => some r4) ((spec_l2Ends.f k x0.2.2.2.2 x0.2.2.1).bind fun (r5 : Bool) => some r5))))) := by kernel_rfl
theorem spec_AffixOk.ok (k : Nat) : CsOk Try.prog Jp (spec_AffixOk.C k) := .cons (spec_l2Flag.snd k) spec_l2Flag.can <| .cons (spec_l1Letters.snd k) spec_l1Letters.can <| .cons (spec_l2Begins.snd k) spec_l2Begins.can <| .cons (spec_l2Ends.snd k) spec_l2Ends.can <| .nil
theorem spec_AffixOk.can : Can Try.prog 88 := can_of (fn := Try.f88) (by kernel_rfl) (by kernel_rfl) (by kernel_rfl)
theorem spec_AffixOk.snd (k : Nat) : Snd Try.prog Jp 88 ⟨spec_AffixOk.ps, spec_AffixOk.rs, spec_AffixOk.F k⟩ := snd_of E_ok spec_AffixOk.ok mixed (fn := Try.f88) (by kernel_rfl) (by kernel_rfl) (by kernel_rfl) k
noncomputable def spec_l2Affixes.C (k : Nat) : CEs := [(88, ⟨spec_AffixOk.ps, spec_AffixOk.rs, spec_AffixOk.F k⟩)]
abbrev spec_l2Affixes.ps : List Par := [⟨t23, .rd⟩]
abbrev spec_l2Affixes.rs : List Res := [⟨.bool, .ro, false⟩]
def spec_l2Affixes.H : Heads := [(2, [(0, .ro), (3, .ro)]), (7, [(0, .ro), (3, .ro), (4, .ro)])]
noncomputable def spec_l2Affixes.F : Nat → ProdT (spec_l2Affixes.ps.map (·.τ)) → Option (ProdT (outs spec_l2Affixes.ps spec_l2Affixes.rs)) := evFn E spec_l2Affixes.C spec_l2Affixes.H Try.f46 spec_l2Affixes.ps spec_l2Affixes.rs
noncomputable def spec_l2Affixes.L2 (k k1 : Nat) (x0 : List Aff) (x3 : Int) : Option (Bool) := atL E spec_l2Affixes.C spec_l2Affixes.H Try.f46 spec_l2Affixes.ps spec_l2Affixes.rs [true, false, true, true] k [] k1 (sh 34 [(0, .d t23 x0 .ro), (3, .d (.int .i64) x3 .ro)])
noncomputable def spec_l2Affixes.L7 (k k1 k2 : Nat) (x0 : List Aff) (x3 : Int) (x4 : Int) : Option (Bool) := atL E spec_l2Affixes.C spec_l2Affixes.H Try.f46 spec_l2Affixes.ps spec_l2Affixes.rs [true, false, true, true, true, true, false, true, true, true, true] k [k1] k2 (sh 34 [(0, .d t23 x0 .ro), (3, .d (.int .i64) x3 .ro), (4, .d (.int .i64) x4 .ro)])
noncomputable def spec_l2Affixes.f (k : Nat) (x0 : List Aff) : Option (Bool) := spec_l2Affixes.F k x0
theorem spec_l2Affixes.f_eq (k : Nat) (x0 : List Aff) : spec_l2Affixes.f k x0 = spec_l2Affixes.L2 k k x0 (0 : Int) := by kernel_rfl
theorem spec_l2Affixes.L2_eq (k k1 : Nat) (x0 : List Aff) (x3 : Int) : spec_l2Affixes.L2 k (k1 + 1) x0 x3 = ifb (decide (x3 < (x0.length : Int))) (ifb (decide (0 ≤ x3) && decide (x3 < (x0.length : Int))) ((spec_AffixOk.f k1 (x0.getD x3.toNat zA)).bind fun (r0 : Bool) => ifb (!r0) (some false) (spec_l2Affixes.L7 k k1 k1 x0 x3 (0 : Int))) (none)) (some (decide ((x0.length : Int) ≤ (8 : Int)))) := by kernel_rfl
theorem spec_l2Affixes.L7_eq (k k1 k2 : Nat) (x0 : List Aff) (x3 : Int) (x4 : Int) : spec_l2Affixes.L7 k k1 (k2 + 1) x0 x3 x4 = ifb (decide (x4 < x3)) (ifb (decide (0 ≤ x4) && decide (x4 < (x0.length : Int))) (ifb (decide (0 ≤ x3) && decide (x3 < (x0.length : Int))) (ifb ((((x0.getD x4.toNat zA).1).toList == ((x0.getD x3.toNat zA).1).toList) && ((((x0.getD x4.toNat zA).2).1 == ((x0.getD x3.toNat zA).2).1) && ((((((x0.getD x4.toNat zA).2).2).1).toList == ((((x0.getD x3.toNat zA).2).2).1).toList) && (((((((x0.getD x4.toNat zA).2).2).2).1).toList == (((((x0.getD x3.toNat zA).2).2).2).1).toList) && ((((((x0.getD x4.toNat zA).2).2).2).2).toList == (((((x0.getD x3.toNat zA).2).2).2).2).toList))))) (some false) (spec_l2Affixes.L7 k k1 k2 x0 x3 (w64 (x4 + 1)))) (none)) (none)) (spec_l2Affixes.L2 k k1 x0 (w64 (x3 + 1))) := by kernel_rfl
theorem spec_l2Affixes.ok (k : Nat) : CsOk Try.prog Jp (spec_l2Affixes.C k) := .cons (spec_AffixOk.snd k) spec_AffixOk.can <| .nil
theorem spec_l2Affixes.can : Can Try.prog 46 := can_of (fn := Try.f46) (by kernel_rfl) (by kernel_rfl) (by kernel_rfl)
theorem spec_l2Affixes.snd (k : Nat) : Snd Try.prog Jp 46 ⟨spec_l2Affixes.ps, spec_l2Affixes.rs, spec_l2Affixes.F k⟩ := snd_of E_ok spec_l2Affixes.ok mixed (fn := Try.f46) (by kernel_rfl) (by kernel_rfl) (by kernel_rfl) k
noncomputable def spec_BookOk.C (k : Nat) : CEs := [(47, ⟨spec_l2Entry.ps, spec_l2Entry.rs, spec_l2Entry.F k⟩), (46, ⟨spec_l2Affixes.ps, spec_l2Affixes.rs, spec_l2Affixes.F k⟩)]
abbrev spec_BookOk.ps : List Par := [⟨t25, .rd⟩]
abbrev spec_BookOk.rs : List Res := [⟨.bool, .ro, false⟩]
def spec_BookOk.H : Heads := [(2, [(1, .ro), (3, .ro)])]
noncomputable def spec_BookOk.F : Nat → ProdT (spec_BookOk.ps.map (·.τ)) → Option (ProdT (outs spec_BookOk.ps spec_BookOk.rs)) := evFn E spec_BookOk.C spec_BookOk.H Try.f12 spec_BookOk.ps spec_BookOk.rs
noncomputable def spec_BookOk.L2 (k k1 : Nat) (x1 : Book) (x3 : Int) : Option (Bool) := atL E spec_BookOk.C spec_BookOk.H Try.f12 spec_BookOk.ps spec_BookOk.rs [true, false, true, true] k [] k1 (sh 47 [(1, .box t25 x1 .ro none), (3, .d (.int .i64) x3 .ro)])
noncomputable def spec_BookOk.f (k : Nat) (x0 : Book) : Option (Bool) := spec_BookOk.F k x0
theorem spec_BookOk.f_eq (k : Nat) (x0 : Book) : spec_BookOk.f k x0 = spec_BookOk.L2 k k x0 (0 : Int) := by kernel_rfl
theorem spec_BookOk.L2_eq (k k1 : Nat) (x1 : Book) (x3 : Int) : spec_BookOk.L2 k (k1 + 1) x1 x3 = ifb (decide (x3 < (x1.2.length : Int))) (ifb (decide (0 ≤ x3) && decide (x3 < (x1.2.length : Int))) ((spec_l2Entry.f k1 (x1.2.getD x3.toNat zE)).bind fun (r0 : Bool) => ifb (!r0) (some false) (ifb (decide (x3 > 0)) (ifb (decide (0 ≤ (w64 (x3 - 1))) && decide ((w64 (x3 - 1)) < (x1.2.length : Int))) (ifb (decide (0 ≤ x3) && decide (x3 < (x1.2.length : Int))) (ifb (!(Op.bytesLess ((x1.2.getD ((w64 (x3 - 1)).toNat) zE).1).toList ((x1.2.getD x3.toNat zE).1).toList)) (some false) (spec_BookOk.L2 k k1 x1 (w64 (x3 + 1)))) (none)) (none)) (spec_BookOk.L2 k k1 x1 (w64 (x3 + 1))))) (none)) ((spec_l2Affixes.f k x1.1).bind fun (r1 : Bool) => ifb r1 (some (decide ((x1.2.length : Int) ≤ (24 : Int)))) (some false)) := by kernel_rfl
theorem spec_BookOk.ok (k : Nat) : CsOk Try.prog Jp (spec_BookOk.C k) := .cons (spec_l2Entry.snd k) spec_l2Entry.can <| .cons (spec_l2Affixes.snd k) spec_l2Affixes.can <| .nil
theorem spec_BookOk.can : Can Try.prog 12 := can_of (fn := Try.f12) (by kernel_rfl) (by kernel_rfl) (by kernel_rfl)
theorem spec_BookOk.snd (k : Nat) : Snd Try.prog Jp 12 ⟨spec_BookOk.ps, spec_BookOk.rs, spec_BookOk.F k⟩ := snd_of E_ok spec_BookOk.ok mixed (fn := Try.f12) (by kernel_rfl) (by kernel_rfl) (by kernel_rfl) k
noncomputable def spec_l5Entries.C (k : Nat) : CEs := [(12, ⟨spec_BookOk.ps, spec_BookOk.rs, spec_BookOk.F k⟩)]
abbrev spec_l5Entries.ps : List Par := [⟨t24, .rd⟩]
abbrev spec_l5Entries.rs : List Res := [⟨.bool, .ro, false⟩]
def spec_l5Entries.H : Heads := []
noncomputable def spec_l5Entries.F : Nat → ProdT (spec_l5Entries.ps.map (·.τ)) → Option (ProdT (outs spec_l5Entries.ps spec_l5Entries.rs)) := evFn E spec_l5Entries.C spec_l5Entries.H Try.f45 spec_l5Entries.ps spec_l5Entries.rs
noncomputable def spec_l5Entries.f (k : Nat) (x0 : List En) : Option (Bool) := spec_l5Entries.F k x0
theorem spec_l5Entries.f_eq (k : Nat) (x0 : List En) : spec_l5Entries.f k x0 = (spec_BookOk.f k (([] : List Aff), x0)).bind fun (r0 : Bool) => some r0 := by kernel_rfl
theorem spec_l5Entries.ok (k : Nat) : CsOk Try.prog Jp (spec_l5Entries.C k) := .cons (spec_BookOk.snd k) spec_BookOk.can <| .nil
theorem spec_l5Entries.can : Can Try.prog 45 := can_of (fn := Try.f45) (by kernel_rfl) (by kernel_rfl) (by kernel_rfl)
theorem spec_l5Entries.snd (k : Nat) : Snd Try.prog Jp 45 ⟨spec_l5Entries.ps, spec_l5Entries.rs, spec_l5Entries.F k⟩ := snd_of E_ok spec_l5Entries.ok mixed (fn := Try.f45) (by kernel_rfl) (by kernel_rfl) (by kernel_rfl) k
end Go.Proofs.Ytabindnaedchgaa.Rf
end

section
/-
  DERIVED: THE SHELF's CONTRACTS AT THIS DUMP, IN PLAIN WORDS (tools/lay-plain.mjs out of 'TryEShelf.lean', which tools/lay-shelf.mjs wrote): THE SAME DECLARATIONS UNDER THE SAME NAMES: 'import', 'namespace', 'open', 'def', 'theorem' AND NOTHING ELSE: no command of the shelf's: FOR A HAND-IN. Each laying: the table of numbers ('.._ren') and one theorem, a field a fact of the dump's own or the kernel's comparison; each contract: ONE APPLICATION.
-/
namespace Go.Proofs
open Go.Shelf
def Try.laysIdx_ren : Go.Shelf.Ren := ⟨fun | 6 => 76 | n => n, fun | 22 => 24 | 23 => 38 | 25 => 77 | 3 => 3 | 0 => 0 | 4 => 4 | n => n, fun | n => n⟩
theorem Try.laysIdx : Go.Proofs.SlLaysH0.n6 Try.prog Try.laysIdx_ren := {
  mixed := by kernel_rfl
  f6 := ⟨Try.f76.name, by decide, Try.func76.trans (congrArg some (by kernel_rfl))⟩
  t0 := Try.underlying0
  a0 := Try.isAgg0
  z0 := Try.sizeOf0
  v0 := Try.zeroValue0
  t3 := Try.underlying3
  a3 := Try.isAgg3
  z3 := Try.sizeOf3
  v3 := Try.zeroValue3
  t4 := Try.underlying4
  a4 := Try.isAgg4
  z4 := Try.sizeOf4
  v4 := Try.zeroValue4
  t22 := Try.underlying24
  a22 := Try.isAgg24
  z22 := Try.sizeOf24
  v22 := Try.zeroValue24
  t25 := Try.underlying77
  a25 := Try.isAgg77
  z25 := Try.sizeOf77
  v25 := Try.zeroValue77 }
def Try.laysSort_ren : Go.Shelf.Ren := ⟨fun | 6 => 79 | 15 => 99 | 14 => 102 | 28 => 121 | 29 => 122 | 20 => 123 | 21 => 124 | 22 => 125 | 23 => 126 | 24 => 127 | 25 => 128 | 26 => 129 | 27 => 130 | 46 => 138 | 47 => 134 | 48 => 135 | 49 => 139 | 50 => 140 | 57 => 142 | n => n, fun | 22 => 24 | 24 => 38 | 25 => 103 | 3 => 3 | 39 => 119 | 0 => 0 | 53 => 134 | 55 => 136 | 4 => 4 | 46 => 128 | 45 => 127 | 50 => 68 | 5 => 5 | 9 => 9 | 66 => 142 | 70 => 146 | 76 => 150 | 77 => 151 | n => n, fun | n => n⟩
theorem Try.laysSort : Go.Proofs.SlLaysF0.n6 Try.prog Try.laysSort_ren := {
  mixed := by kernel_rfl
  f6 := ⟨Try.f79.name, by decide, Try.func79.trans (congrArg some (by kernel_rfl))⟩
  f14 := ⟨Try.f102.name, by decide, Try.func102.trans (congrArg some (by kernel_rfl))⟩
  f15 := Try.func99.trans (congrArg some (by kernel_rfl))
  f20 := ⟨Try.f123.name, by decide, Try.func123.trans (congrArg some (by kernel_rfl))⟩
  f21 := ⟨Try.f124.name, by decide, Try.func124.trans (congrArg some (by kernel_rfl))⟩
  f22 := ⟨Try.f125.name, by decide, Try.func125.trans (congrArg some (by kernel_rfl))⟩
  f23 := ⟨Try.f126.name, by decide, Try.func126.trans (congrArg some (by kernel_rfl))⟩
  f24 := ⟨Try.f127.name, by decide, Try.func127.trans (congrArg some (by kernel_rfl))⟩
  f25 := ⟨Try.f128.name, by decide, Try.func128.trans (congrArg some (by kernel_rfl))⟩
  f26 := ⟨Try.f129.name, by decide, Try.func129.trans (congrArg some (by kernel_rfl))⟩
  f27 := ⟨Try.f130.name, by decide, Try.func130.trans (congrArg some (by kernel_rfl))⟩
  f28 := Try.func121.trans (congrArg some (by kernel_rfl))
  f29 := Try.func122.trans (congrArg some (by kernel_rfl))
  f46 := ⟨Try.f138.name, by decide, Try.func138.trans (congrArg some (by kernel_rfl))⟩
  f47 := Try.func134.trans (congrArg some (by kernel_rfl))
  f48 := Try.func135.trans (congrArg some (by kernel_rfl))
  f49 := ⟨Try.f139.name, by decide, Try.func139.trans (congrArg some (by kernel_rfl))⟩
  f50 := ⟨Try.f140.name, by decide, Try.func140.trans (congrArg some (by kernel_rfl))⟩
  f57 := ⟨Try.f142.name, by decide, Try.func142.trans (congrArg some (by kernel_rfl))⟩
  t0 := Try.underlying0
  a0 := Try.isAgg0
  z0 := Try.sizeOf0
  v0 := Try.zeroValue0
  t3 := Try.underlying3
  a3 := Try.isAgg3
  z3 := Try.sizeOf3
  v3 := Try.zeroValue3
  t4 := Try.underlying4
  a4 := Try.isAgg4
  z4 := Try.sizeOf4
  v4 := Try.zeroValue4
  t5 := Try.underlying5
  a5 := Try.isAgg5
  z5 := Try.sizeOf5
  v5 := Try.zeroValue5
  t9 := Try.underlying9
  a9 := Try.isAgg9
  z9 := Try.sizeOf9
  v9 := Try.zeroValue9
  t22 := Try.underlying24
  a22 := Try.isAgg24
  z22 := Try.sizeOf24
  v22 := Try.zeroValue24
  t25 := Try.underlying103
  a25 := Try.isAgg103
  z25 := Try.sizeOf103
  v25 := Try.zeroValue103
  t39 := Try.underlying119
  a39 := Try.isAgg119
  z39 := Try.sizeOf119
  v39 := Try.zeroValue119
  t45 := Try.underlying127
  a45 := Try.isAgg127
  z45 := Try.sizeOf127
  v45 := Try.zeroValue127
  t46 := Try.underlying128
  a46 := Try.isAgg128
  z46 := Try.sizeOf128
  v46 := Try.zeroValue128
  t50 := Try.underlying68
  a50 := Try.isAgg68
  z50 := Try.sizeOf68
  v50 := Try.zeroValue68
  t53 := Try.underlying134
  a53 := Try.isAgg134
  z53 := Try.sizeOf134
  v53 := Try.zeroValue134
  t55 := Try.underlying136
  a55 := Try.isAgg136
  z55 := Try.sizeOf136
  v55 := Try.zeroValue136
  t66 := Try.underlying142
  a66 := Try.isAgg142
  z66 := Try.sizeOf142
  v66 := Try.zeroValue142
  t70 := Try.underlying146
  a70 := Try.isAgg146
  z70 := Try.sizeOf146
  v70 := Try.zeroValue146
  t76 := Try.underlying150
  a76 := Try.isAgg150
  z76 := Try.sizeOf150
  v76 := Try.zeroValue150
  t77 := Try.underlying151
  a77 := Try.isAgg151
  z77 := Try.sizeOf151
  v77 := Try.zeroValue151 }
end Go.Proofs
end

section
/- impl.entryAt, walked by hand: slices.IndexFunc with a closure that has captured a text. -/
namespace Go.Proofs.Ytabindnaedchgaa.Rf
open Go Go.RowKit
set_option linter.unusedVariables false
set_option linter.unusedSimpArgs false
/-- The cells of an entry. -/
def encE (x : ByteArray × ByteArray) : List Value := [.string x.1, .string x.2]
theorem entry_pred (s : ByteArray) (B : Nat) (w : World) (hB : B < w.heap.size) (hcell : w.cell? ⟨B, 0, none⟩ = some (.string s)) :
    PredBelow Try.prog 77 #[.pointer (some ⟨B, 0, none⟩)] (fun x => .agg (encE x).toArray) (fun x => x.1.toList == s.toList) w := fun W x hb => by
  have hc : W.cell? ⟨B, 0, none⟩ = some (.string s) := (hb.cell (p := ⟨B, 0, none⟩) hB).trans hcell
  have hBW : B < W.heap.size := Nat.lt_of_lt_of_le hB hb.size
  have hne : B ≠ W.heap.size := by omega
  show Calls Try.prog 77 #[.agg #[.string x.1, .string x.2], .pointer (some ⟨B, 0, none⟩)] W _
  go_enter Try.func77, Try.ntmps77
  go_wp2
  go_ret
  exact ⟨rfl, hb.alloc hb.size _⟩
theorem index_empty (a : Option Addr) (c : Nat) (fv : Value) (w : World) :
    Calls Try.prog 76 #[.slice a 0 c, fv] w fun e w' => e = .returned (.int .i64 (-1)) ∧ w' = w := by
  go_enter Try.func76, Try.ntmps76
  go_wp2
  go_loopg [5, 8] 0 (fun _ _ s8 wr => s8 = .int .i64 0 ∧ wr = w)
  case atStart => exact ⟨rfl, rfl⟩
  case round =>
    obtain ⟨rfl, rfl⟩ := hrel
    go_wp2
    go_ret
    exact ⟨rfl, rfl⟩
instance instEn : Inhabited (ByteArray × ByteArray) := ⟨(ByteArray.empty, ByteArray.empty)⟩
/-- The place of the first entry with a stem. -/
def idxE (l : List (ByteArray × ByteArray)) (s : ByteArray) : Int := Lib.idxBy (fun _ y => y.1.toList == s.toList) l default
set_option maxHeartbeats 4000000 in
theorem entryAt_calls (A0 : Option Addr) (c0 : Nat) (l0 : List (ByteArray × ByteArray)) (a1 : ByteArray) (w : World) (hlen : l0.length ≤ 4611686018427387904)
    (hr : l0 = [] ∨ ∃ b off, A0 = some ⟨b, off, none⟩ ∧ b < w.heap.size ∧ ∀ j, j < l0.length → ∀ i v, (encE l0[j]!)[i]? = some v → w.cell? ⟨b, off + j * 2 + i, none⟩ = some v) :
    Calls Try.prog 34 #[.slice A0 l0.length c0, .string a1] w fun e w' => e = .returned (.int .i64 (idxE l0 a1)) ∧ Below w.heap.size w w' := by
  have hcon : Calls Try.prog 76 #[.slice A0 l0.length c0, .func (.func 77) #[] #[.pointer (some ⟨w.heap.size, 0, none⟩)]] (w.alloc (.cells #[.string a1] 9)) fun e w' => e = .returned (.int .i64 (idxE l0 a1)) ∧ Below (w.alloc (.cells #[.string a1] 9)).heap.size (w.alloc (.cells #[.string a1] 9)) w' := by
    rcases hr with rfl | ⟨b, off, rfl, hb, hc⟩
    · exact (index_empty A0 c0 _ _).mono fun e w' ⟨he, hw⟩ => ⟨he, hw ▸ Below.refl _ _⟩
    · have eg : ∀ args w, (callFunc 77 args).run Try.prog w = .ok (.enter 77 args) w := enters_of Try.func77 (by kernel_rfl) rfl
      have h := AnyQ.slices_IndexFunc Try.laysIdx 2 Try.isAgg38 Try.sizeOf38 encE (fun _ => rfl) (fun x => x.1.toList == a1.toList) 77 #[.pointer (some ⟨w.heap.size, 0, none⟩)] eg b off l0.length c0 l0 (w.alloc (.cells #[.string a1] 9))
        (entry_pred a1 w.heap.size _ (by simp) (by simp)) (Nat.le_refl _) (by omega) (by simp; omega) (fun j hj i v hi => Lib.cell?_alloc_some _ (hc j hj i v hi))
      rw [List.take_length] at h
      exact h
  unfold idxE at hcon ⊢
  generalize Lib.idxBy (fun _ y => y.1.toList == a1.toList) l0 default = r at hcon ⊢
  go_enter Try.func34, Try.ntmps34
  go_wp2_with (go_at_call 76; refine hcon.mono ?_; rintro e w' ⟨rfl, hb'⟩)
  go_ret
  exact ⟨rfl, ((Below.refl _ w).alloc (Nat.le_refl _) _).trans (hb'.mono (by simp))⟩
abbrev impl_entryAt.ps : List Par := [⟨.row (.st (.pair .str .str)), .rd⟩, ⟨.str, .rd⟩]
abbrev impl_entryAt.rs : List Res := [⟨.int .i64, .ro, false⟩]
def impl_entryAt.F (_ : Nat) (x : List (ByteArray × ByteArray) × ByteArray) : Option Int := if x.1.length ≤ 4611686018427387904 then some (idxE x.1 x.2) else none
def impl_entryAt.f (k : Nat) (l : List (ByteArray × ByteArray)) (s : ByteArray) : Option Int := impl_entryAt.F k (l, s)
theorem impl_entryAt.can : Can Try.prog 34 := can_of (fn := Try.f34) (by kernel_rfl) (by kernel_rfl) (by kernel_rfl)
theorem impl_entryAt.snd (k : Nat) : Snd Try.prog Jp 34 ⟨impl_entryAt.ps, impl_entryAt.rs, impl_entryAt.F k⟩ := by
  refine snd_ro rfl ?_
  rintro ⟨l, s⟩ r hr ξ w vs wf _ hsz ha
  simp only [impl_entryAt.F] at hr
  split at hr
  case isFalse => cases hr
  rename_i hlen
  obtain rfl := Option.some.inj hr
  obtain ⟨T0, cs, h0, h1⟩ := ha 0 _ _ rfl rfl
  obtain ⟨T1, h2⟩ := ha 1 _ _ rfl rfl
  have h2 := own_str (by simp) h2
  obtain ⟨A, cap, rfl, k1, k2⟩ := h1.row_ro
  obtain rfl := vs_two hsz h0 h2
  refine (entryAt_calls A cap l s w hlen ?_).mono ?_
  · rcases Nat.eq_zero_or_pos l.length with h | h
    · exact .inl (List.eq_nil_of_length_eq_zero h)
    · obtain ⟨a, c, e1, e2, e3, e4, e5⟩ := k2 0 h
      obtain rfl := rel_pair e5
      obtain ⟨b, off, sp⟩ := a
      simp only at e2 e4
      subst e2
      refine .inr ⟨b, off, e1, cell_lt (e4 0 _ rfl), fun j hj i v hi => ?_⟩
      obtain ⟨a', c', g1, g2, g3, g4, g5⟩ := k2 j hj
      rw [e1] at g1
      obtain rfl := Option.some.inj g1
      obtain rfl := rel_pair g5
      rw [show l[j]! = l[j] from getElem!_pos l j hj] at hi
      exact g4 i v hi
  · rintro e w' ⟨he, hb⟩
    exact ⟨_, Em, he, hb, of_int _ _ _ _ _, fun b hb => hb.elim⟩
end Go.Proofs.Ytabindnaedchgaa.Rf
end

section
/- Functions of the program, told plainly, and their contracts: part A1. -/
namespace Go.Proofs.Ytabindnaedchgaa.Rf
open Go Go.RowKit
set_option linter.unusedVariables false
noncomputable def spec_DeltaOk.C (k : Nat) : CEs := [(44, ⟨spec_l1Word.ps, spec_l1Word.rs, spec_l1Word.F k⟩), (46, ⟨spec_l2Affixes.ps, spec_l2Affixes.rs, spec_l2Affixes.F k⟩), (45, ⟨spec_l5Entries.ps, spec_l5Entries.rs, spec_l5Entries.F k⟩)]
abbrev spec_DeltaOk.ps : List Par := [⟨t28, .rd⟩]
abbrev spec_DeltaOk.rs : List Res := [⟨.bool, .ro, false⟩]
def spec_DeltaOk.H : Heads := [(2, [(1, .ro), (3, .ro)]), (7, [(1, .ro), (3, .ro), (4, .ro)])]
noncomputable def spec_DeltaOk.F : Nat → ProdT (spec_DeltaOk.ps.map (·.τ)) → Option (ProdT (outs spec_DeltaOk.ps spec_DeltaOk.rs)) := evFn E spec_DeltaOk.C spec_DeltaOk.H Try.f11 spec_DeltaOk.ps spec_DeltaOk.rs
noncomputable def spec_DeltaOk.L2 (k k1 : Nat) (x1 : Delta) (x3 : Int) : Option (Bool) := atL E spec_DeltaOk.C spec_DeltaOk.H Try.f11 spec_DeltaOk.ps spec_DeltaOk.rs [true, false, true, true] k [] k1 (sh 80 [(1, .box t28 x1 .ro none), (3, .d (.int .i64) x3 .ro)])
noncomputable def spec_DeltaOk.L7 (k k1 k2 : Nat) (x1 : Delta) (x3 : Int) (x4 : Int) : Option (Bool) := atL E spec_DeltaOk.C spec_DeltaOk.H Try.f11 spec_DeltaOk.ps spec_DeltaOk.rs [true, false, true, true, true, true, false, true, true, true, true] k [k1] k2 (sh 80 [(1, .box t28 x1 .ro none), (3, .d (.int .i64) x3 .ro), (4, .d (.int .i64) x4 .ro)])
noncomputable def spec_DeltaOk.f (k : Nat) (x0 : Delta) : Option (Bool) := spec_DeltaOk.F k x0
theorem spec_DeltaOk.f_eq (k : Nat) (x0 : Delta) : spec_DeltaOk.f k x0 = spec_DeltaOk.L2 k k x0 (0 : Int) := by kernel_rfl
theorem spec_DeltaOk.L2_eq (k k1 : Nat) (x1 : Delta) (x3 : Int) : spec_DeltaOk.L2 k (k1 + 1) x1 x3 = ifb (decide (x3 < (x1.1.length : Int))) (ifb (decide (0 ≤ x3) && decide (x3 < (x1.1.length : Int))) ((spec_l1Word.f k1 (x1.1.getD x3.toNat bz)).bind fun (r0 : Bool) => ifb (!r0) (some false) (ifb (decide (x3 > 0)) (ifb (decide (0 ≤ (w64 (x3 - 1))) && decide ((w64 (x3 - 1)) < (x1.1.length : Int))) (ifb (decide (0 ≤ x3) && decide (x3 < (x1.1.length : Int))) (ifb (!(Op.bytesLess (x1.1.getD ((w64 (x3 - 1)).toNat) bz).toList (x1.1.getD x3.toNat bz).toList)) (some false) (spec_DeltaOk.L7 k k1 k1 x1 x3 (0 : Int))) (none)) (none)) (spec_DeltaOk.L7 k k1 k1 x1 x3 (0 : Int)))) (none)) (ifb (decide ((x1.1.length : Int) ≤ (24 : Int))) ((spec_l5Entries.f k x1.2.1).bind fun (r1 : Bool) => ifb r1 ((spec_l2Affixes.f k x1.2.2.2).bind fun (r2 : Bool) => ifb r2 (ifb x1.2.2.1 (some true) (some ((x1.2.2.2.length : Int) == (0 : Int)))) (some false)) (some false)) (some false)) := by kernel_rfl
theorem spec_DeltaOk.L7_eq (k k1 k2 : Nat) (x1 : Delta) (x3 : Int) (x4 : Int) : spec_DeltaOk.L7 k k1 (k2 + 1) x1 x3 x4 = ifb (decide (x4 < (x1.2.1.length : Int))) (ifb (decide (0 ≤ x4) && decide (x4 < (x1.2.1.length : Int))) (ifb (decide (0 ≤ x3) && decide (x3 < (x1.1.length : Int))) (ifb (((x1.2.1.getD x4.toNat zE).1).toList == (x1.1.getD x3.toNat bz).toList) (some false) (spec_DeltaOk.L7 k k1 k2 x1 x3 (w64 (x4 + 1)))) (none)) (none)) (spec_DeltaOk.L2 k k1 x1 (w64 (x3 + 1))) := by kernel_rfl
theorem spec_DeltaOk.ok (k : Nat) : CsOk Try.prog Jp (spec_DeltaOk.C k) := .cons (spec_l1Word.snd k) spec_l1Word.can <| .cons (spec_l2Affixes.snd k) spec_l2Affixes.can <| .cons (spec_l5Entries.snd k) spec_l5Entries.can <| .nil
theorem spec_DeltaOk.can : Can Try.prog 11 := can_of (fn := Try.f11) (by kernel_rfl) (by kernel_rfl) (by kernel_rfl)
theorem spec_DeltaOk.snd (k : Nat) : Snd Try.prog Jp 11 ⟨spec_DeltaOk.ps, spec_DeltaOk.rs, spec_DeltaOk.F k⟩ := snd_of E_ok spec_DeltaOk.ok mixed (fn := Try.f11) (by kernel_rfl) (by kernel_rfl) (by kernel_rfl) k
noncomputable def spec_l5At.C (k : Nat) : CEs := []
abbrev spec_l5At.ps : List Par := [⟨t24, .rd⟩, ⟨.str, .rd⟩]
abbrev spec_l5At.rs : List Res := [⟨(.int .i64), .ro, false⟩, ⟨.bool, .ro, false⟩]
def spec_l5At.H : Heads := [(2, [(0, .ro), (1, .ro), (6, .ro)])]
noncomputable def spec_l5At.F : Nat → ProdT (spec_l5At.ps.map (·.τ)) → Option (ProdT (outs spec_l5At.ps spec_l5At.rs)) := evFn E spec_l5At.C spec_l5At.H Try.f38 spec_l5At.ps spec_l5At.rs
noncomputable def spec_l5At.L2 (k k1 : Nat) (x0 : List En) (x1 : ByteArray) (x6 : Int) : Option (Int × Bool) := atL E spec_l5At.C spec_l5At.H Try.f38 spec_l5At.ps spec_l5At.rs [true, true, false, true] k [] k1 (sh 36 [(0, .d t24 x0 .ro), (1, .d .str x1 .ro), (6, .d (.int .i64) x6 .ro)])
noncomputable def spec_l5At.f (k : Nat) (x0 : List En) (x1 : ByteArray) : Option (Int × Bool) := spec_l5At.F k (x0, x1)
theorem spec_l5At.f_eq (k : Nat) (x0 : List En) (x1 : ByteArray) : spec_l5At.f k x0 x1 = spec_l5At.L2 k k x0 x1 (0 : Int) := by kernel_rfl
theorem spec_l5At.L2_eq (k k1 : Nat) (x0 : List En) (x1 : ByteArray) (x6 : Int) : spec_l5At.L2 k (k1 + 1) x0 x1 x6 = ifb (decide (x6 < (x0.length : Int))) (ifb (decide (0 ≤ x6) && decide (x6 < (x0.length : Int))) (ifb (Op.bytesLess ((x0.getD x6.toNat zE).1).toList x1.toList) (spec_l5At.L2 k k1 x0 x1 (w64 (x6 + 1))) (ifb (decide (x6 < (x0.length : Int))) (ifb (decide (0 ≤ x6) && decide (x6 < (x0.length : Int))) (some (x6, (((x0.getD x6.toNat zE).1).toList == x1.toList))) (none)) (some (x6, false)))) (none)) (ifb (decide (x6 < (x0.length : Int))) (ifb (decide (0 ≤ x6) && decide (x6 < (x0.length : Int))) (some (x6, (((x0.getD x6.toNat zE).1).toList == x1.toList))) (none)) (some (x6, false))) := by kernel_rfl
theorem spec_l5At.ok (k : Nat) : CsOk Try.prog Jp (spec_l5At.C k) := .nil
theorem spec_l5At.can : Can Try.prog 38 := can_of (fn := Try.f38) (by kernel_rfl) (by kernel_rfl) (by kernel_rfl)
theorem spec_l5At.snd (k : Nat) : Snd Try.prog Jp 38 ⟨spec_l5At.ps, spec_l5At.rs, spec_l5At.F k⟩ := snd_of E_ok spec_l5At.ok mixed (fn := Try.f38) (by kernel_rfl) (by kernel_rfl) (by kernel_rfl) k
noncomputable def spec_l5Book.C (k : Nat) : CEs := []
abbrev spec_l5Book.ps : List Par := [⟨t25, .rd⟩]
abbrev spec_l5Book.rs : List Res := [⟨t25, (.pr (.own .ro) (.own .ro)), false⟩]
def spec_l5Book.H : Heads := []
noncomputable def spec_l5Book.F : Nat → ProdT (spec_l5Book.ps.map (·.τ)) → Option (ProdT (outs spec_l5Book.ps spec_l5Book.rs)) := evFn E spec_l5Book.C spec_l5Book.H Try.f39 spec_l5Book.ps spec_l5Book.rs
noncomputable def spec_l5Book.f (k : Nat) (x0 : Book) : Option Book := spec_l5Book.F k x0
theorem spec_l5Book.f_eq (k : Nat) (x0 : Book) : spec_l5Book.f k x0 = ifb (decide ((([] : List Aff).length + x0.1.length) * 72 ≤ rowMax)) (ifb (decide ((([] : List En).length + x0.2.length) * 32 ≤ rowMax)) (some ((([] : List Aff) ++ x0.1), (([] : List En) ++ x0.2))) (none)) (none) := by kernel_rfl
theorem spec_l5Book.ok (k : Nat) : CsOk Try.prog Jp (spec_l5Book.C k) := .nil
theorem spec_l5Book.can : Can Try.prog 39 := can_of (fn := Try.f39) (by kernel_rfl) (by kernel_rfl) (by kernel_rfl)
theorem spec_l5Book.snd (k : Nat) : Snd Try.prog Jp 39 ⟨spec_l5Book.ps, spec_l5Book.rs, spec_l5Book.F k⟩ := snd_of E_ok spec_l5Book.ok mixed (fn := Try.f39) (by kernel_rfl) (by kernel_rfl) (by kernel_rfl) k
noncomputable def spec_l2In.C (k : Nat) : CEs := []
abbrev spec_l2In.ps : List Par := [⟨(.row .str), .rd⟩, ⟨.str, .rd⟩]
abbrev spec_l2In.rs : List Res := [⟨.bool, .ro, false⟩]
def spec_l2In.H : Heads := [(2, [(0, .ro), (1, .ro), (5, .ro)])]
noncomputable def spec_l2In.F : Nat → ProdT (spec_l2In.ps.map (·.τ)) → Option (ProdT (outs spec_l2In.ps spec_l2In.rs)) := evFn E spec_l2In.C spec_l2In.H Try.f82 spec_l2In.ps spec_l2In.rs
noncomputable def spec_l2In.L2 (k k1 : Nat) (x0 : List ByteArray) (x1 : ByteArray) (x5 : Int) : Option (Bool) := atL E spec_l2In.C spec_l2In.H Try.f82 spec_l2In.ps spec_l2In.rs [true, false, true, true] k [] k1 (sh 18 [(0, .d (.row .str) x0 .ro), (1, .d .str x1 .ro), (5, .d (.int .i64) x5 .ro)])
noncomputable def spec_l2In.f (k : Nat) (x0 : List ByteArray) (x1 : ByteArray) : Option (Bool) := spec_l2In.F k (x0, x1)
theorem spec_l2In.f_eq (k : Nat) (x0 : List ByteArray) (x1 : ByteArray) : spec_l2In.f k x0 x1 = spec_l2In.L2 k k x0 x1 (0 : Int) := by kernel_rfl
theorem spec_l2In.L2_eq (k k1 : Nat) (x0 : List ByteArray) (x1 : ByteArray) (x5 : Int) : spec_l2In.L2 k (k1 + 1) x0 x1 x5 = ifb (decide (x5 < (x0.length : Int))) (ifb (decide (0 ≤ x5) && decide (x5 < (x0.length : Int))) (ifb ((x0.getD x5.toNat bz).toList == x1.toList) (some true) (spec_l2In.L2 k k1 x0 x1 (w64 (x5 + 1)))) (none)) (some false) := by kernel_rfl
theorem spec_l2In.ok (k : Nat) : CsOk Try.prog Jp (spec_l2In.C k) := .nil
theorem spec_l2In.can : Can Try.prog 82 := can_of (fn := Try.f82) (by kernel_rfl) (by kernel_rfl) (by kernel_rfl)
theorem spec_l2In.snd (k : Nat) : Snd Try.prog Jp 82 ⟨spec_l2In.ps, spec_l2In.rs, spec_l2In.F k⟩ := snd_of E_ok spec_l2In.ok mixed (fn := Try.f82) (by kernel_rfl) (by kernel_rfl) (by kernel_rfl) k
noncomputable def spec_l5Do.C (k : Nat) : CEs := [(38, ⟨spec_l5At.ps, spec_l5At.rs, spec_l5At.F k⟩), (39, ⟨spec_l5Book.ps, spec_l5Book.rs, spec_l5Book.F k⟩), (82, ⟨spec_l2In.ps, spec_l2In.rs, spec_l2In.F k⟩)]
abbrev spec_l5Do.ps : List Par := [⟨t25, .rd⟩, ⟨t28, .rd⟩]
abbrev spec_l5Do.rs : List Res := [⟨t25, (.pr (.own .ro) (.own .ro)), false⟩]
def spec_l5Do.H : Heads := [(4, [(2, .ro), (3, .ro), (4, (.pr (.own .ro) (.own .ro))), (5, (.pr (.own .ro) (.own .ro))), (6, (.own .ro)), (7, .ro)]), (10, [(3, .ro), (4, (.pr (.own .ro) (.own .ro))), (5, (.pr (.own .ro) (.own .ro))), (6, (.own .ro)), (10, .ro)])]
noncomputable def spec_l5Do.F : Nat → ProdT (spec_l5Do.ps.map (·.τ)) → Option (ProdT (outs spec_l5Do.ps spec_l5Do.rs)) := evFn E spec_l5Do.C spec_l5Do.H Try.f40 spec_l5Do.ps spec_l5Do.rs
noncomputable def spec_l5Do.L4 (k k1 : Nat) (x2 : Book) (x3 : Delta) (x4 : Book) (x5 : Book) (x6 : List En) (x7 : Int) : Option Book := atL E spec_l5Do.C spec_l5Do.H Try.f40 spec_l5Do.ps spec_l5Do.rs [true, true, true, false, true, true] k [] k1 (sh 101 [(2, .box t25 x2 .ro none), (3, .box t28 x3 .ro none), (4, .box t25 x4 (.pr (.own .ro) (.own .ro)) none), (5, .box t25 x5 (.pr (.own .ro) (.own .ro)) none), (6, .d t24 x6 (.own .ro)), (7, .d (.int .i64) x7 .ro)])
noncomputable def spec_l5Do.L10 (k k1 : Nat) (x3 : Delta) (x4 : Book) (x5 : Book) (x6 : List En) (x10 : Int) : Option Book := atL E spec_l5Do.C spec_l5Do.H Try.f40 spec_l5Do.ps spec_l5Do.rs [true, true, true, true, false, true, true] k [] k1 (sh 101 [(3, .box t28 x3 .ro none), (4, .box t25 x4 (.pr (.own .ro) (.own .ro)) none), (5, .box t25 x5 (.pr (.own .ro) (.own .ro)) none), (6, .d t24 x6 (.own .ro)), (10, .d (.int .i64) x10 .ro)])
noncomputable def spec_l5Do.f (k : Nat) (x0 : Book) (x1 : Delta) : Option Book := spec_l5Do.F k (x0, x1)
theorem spec_l5Do.f_eq (k : Nat) (x0 : Book) (x1 : Delta) : spec_l5Do.f k x0 x1 = (spec_l5Book.f k x0).bind fun (r0 : Book) => spec_l5Do.L4 k k x0 x1 (([] : List Aff), ([] : List En)) r0 ([] : List En) (0 : Int) := by kernel_rfl
theorem spec_l5Do.L4_eq (k k1 : Nat) (x2 : Book) (x3 : Delta) (x4 : Book) (x5 : Book) (x6 : List En) (x7 : Int) : spec_l5Do.L4 k (k1 + 1) x2 x3 x4 x5 x6 x7 = ifb (decide (x7 < (x2.2.length : Int))) (ifb (decide (0 ≤ x7) && decide (x7 < (x2.2.length : Int))) ((spec_l5At.f k1 x3.2.1 ((x2.2.getD x7.toNat zE).1)).bind fun (r1 : Int × Bool) => ifb (!r1.2) (ifb (decide (0 ≤ x7) && decide (x7 < (x2.2.length : Int))) ((spec_l2In.f k1 x3.1 ((x2.2.getD x7.toNat zE).1)).bind fun (r2 : Bool) => ifb (!r2) (ifb (decide (0 ≤ x7) && decide (x7 < (x2.2.length : Int))) (ifb (decide ((x6.length + [(x2.2.getD x7.toNat zE)].length) * 32 ≤ rowMax)) (spec_l5Do.L4 k k1 x2 x3 x4 x5 (x6 ++ [(x2.2.getD x7.toNat zE)]) (w64 (x7 + 1))) (none)) (none)) (spec_l5Do.L4 k k1 x2 x3 x4 x5 x6 (w64 (x7 + 1)))) (none)) (spec_l5Do.L4 k k1 x2 x3 x4 x5 x6 (w64 (x7 + 1)))) (none)) (spec_l5Do.L10 k k x3 x4 x5 x6 (0 : Int)) := by kernel_rfl
theorem spec_l5Do.L10_eq (k k1 : Nat) (x3 : Delta) (x4 : Book) (x5 : Book) (x6 : List En) (x10 : Int) : spec_l5Do.L10 k (k1 + 1) x3 x4 x5 x6 x10 = ifb (decide (x10 < (x3.2.1.length : Int))) (ifb (decide (0 ≤ x10) && decide (x10 < (x3.2.1.length : Int))) ((spec_l5At.f k1 x6 ((x3.2.1.getD x10.toNat zE).1)).bind fun (r3 : Int × Bool) => ifb (decide (0 ≤ (0 : Int)) && (decide ((0 : Int) ≤ r3.1) && decide (r3.1 ≤ (x6.length : Int)))) (ifb (decide ((([] : List En).length + ((x6.take r3.1.toNat).drop (0 : Int).toNat).length) * 32 ≤ rowMax)) (ifb (decide (0 ≤ x10) && decide (x10 < (x3.2.1.length : Int))) (ifb (decide (((([] : List En) ++ ((x6.take r3.1.toNat).drop (0 : Int).toNat)).length + [(x3.2.1.getD x10.toNat zE)].length) * 32 ≤ rowMax)) (ifb (decide (0 ≤ r3.1) && (decide (r3.1 ≤ (x6.length : Int)) && decide ((x6.length : Int) ≤ (x6.length : Int)))) (ifb (decide ((((([] : List En) ++ ((x6.take r3.1.toNat).drop (0 : Int).toNat)) ++ [(x3.2.1.getD x10.toNat zE)]).length + ((x6.take (x6.length : Int).toNat).drop r3.1.toNat).length) * 32 ≤ rowMax)) (spec_l5Do.L10 k k1 x3 x4 x5 (((([] : List En) ++ ((x6.take r3.1.toNat).drop (0 : Int).toNat)) ++ [(x3.2.1.getD x10.toNat zE)]) ++ ((x6.take (x6.length : Int).toNat).drop r3.1.toNat)) (w64 (x10 + 1))) (none)) (none)) (none)) (none)) (none)) (none)) (none)) (ifb x3.2.2.1 (ifb (decide ((([] : List Aff).length + x3.2.2.2.length) * 72 ≤ rowMax)) (some ((([] : List Aff) ++ x3.2.2.2), x6)) (none)) (some (x5.1, x6))) := by kernel_rfl
theorem spec_l5Do.ok (k : Nat) : CsOk Try.prog Jp (spec_l5Do.C k) := .cons (spec_l5At.snd k) spec_l5At.can <| .cons (spec_l5Book.snd k) spec_l5Book.can <| .cons (spec_l2In.snd k) spec_l2In.can <| .nil
theorem spec_l5Do.can : Can Try.prog 40 := can_of (fn := Try.f40) (by kernel_rfl) (by kernel_rfl) (by kernel_rfl)
theorem spec_l5Do.snd (k : Nat) : Snd Try.prog Jp 40 ⟨spec_l5Do.ps, spec_l5Do.rs, spec_l5Do.F k⟩ := snd_of E_ok spec_l5Do.ok mixed (fn := Try.f40) (by kernel_rfl) (by kernel_rfl) (by kernel_rfl) k
noncomputable def spec_DeltaDo.C (k : Nat) : CEs := [(12, ⟨spec_BookOk.ps, spec_BookOk.rs, spec_BookOk.F k⟩), (11, ⟨spec_DeltaOk.ps, spec_DeltaOk.rs, spec_DeltaOk.F k⟩), (38, ⟨spec_l5At.ps, spec_l5At.rs, spec_l5At.F k⟩), (39, ⟨spec_l5Book.ps, spec_l5Book.rs, spec_l5Book.F k⟩), (40, ⟨spec_l5Do.ps, spec_l5Do.rs, spec_l5Do.F k⟩)]
abbrev spec_DeltaDo.ps : List Par := [⟨t25, .rd⟩, ⟨t28, .rd⟩]
abbrev spec_DeltaDo.rs : List Res := [⟨t25, (.pr (.own .ro) (.own .ro)), false⟩, ⟨.bool, .ro, false⟩]
def spec_DeltaDo.H : Heads := [(4, [(2, .ro), (3, .ro), (4, (.pr (.own .ro) (.own .ro))), (6, .ro)])]
noncomputable def spec_DeltaDo.F : Nat → ProdT (spec_DeltaDo.ps.map (·.τ)) → Option (ProdT (outs spec_DeltaDo.ps spec_DeltaDo.rs)) := evFn E spec_DeltaDo.C spec_DeltaDo.H Try.f8 spec_DeltaDo.ps spec_DeltaDo.rs
noncomputable def spec_DeltaDo.L4 (k k1 : Nat) (x2 : Book) (x3 : Delta) (x4 : Book) (x6 : Int) : Option (Book × Bool) := atL E spec_DeltaDo.C spec_DeltaDo.H Try.f8 spec_DeltaDo.ps spec_DeltaDo.rs [true, true, false, true, true] k [] k1 (sh 50 [(2, .box t25 x2 .ro none), (3, .box t28 x3 .ro none), (4, .box t25 x4 (.pr (.own .ro) (.own .ro)) none), (6, .d (.int .i64) x6 .ro)])
noncomputable def spec_DeltaDo.f (k : Nat) (x0 : Book) (x1 : Delta) : Option (Book × Bool) := spec_DeltaDo.F k (x0, x1)
theorem spec_DeltaDo.f_eq (k : Nat) (x0 : Book) (x1 : Delta) : spec_DeltaDo.f k x0 x1 = (spec_BookOk.f k x0).bind fun (r0 : Bool) => ifb (!r0) (some ((([] : List Aff), ([] : List En)), false)) ((spec_DeltaOk.f k x1).bind fun (r1 : Bool) => ifb (!r1) (some ((([] : List Aff), ([] : List En)), false)) (spec_DeltaDo.L4 k k x0 x1 (([] : List Aff), ([] : List En)) (0 : Int))) := by kernel_rfl
theorem spec_DeltaDo.L4_eq (k k1 : Nat) (x2 : Book) (x3 : Delta) (x4 : Book) (x6 : Int) : spec_DeltaDo.L4 k (k1 + 1) x2 x3 x4 x6 = ifb (decide (x6 < (x3.1.length : Int))) (ifb (decide (0 ≤ x6) && decide (x6 < (x3.1.length : Int))) ((spec_l5At.f k1 x2.2 (x3.1.getD x6.toNat bz)).bind fun (r2 : Int × Bool) => ifb (!r2.2) ((spec_l5Book.f k1 x2).bind fun (r3 : Book) => some (r3, false)) (spec_DeltaDo.L4 k k1 x2 x3 x4 (w64 (x6 + 1)))) (none)) ((spec_l5Do.f k x2 x3).bind fun (r4 : Book) => (spec_BookOk.f k r4).bind fun (r5 : Bool) => ifb (!r5) ((spec_l5Book.f k x2).bind fun (r6 : Book) => some (r6, false)) (some (r4, true))) := by kernel_rfl
theorem spec_DeltaDo.ok (k : Nat) : CsOk Try.prog Jp (spec_DeltaDo.C k) := .cons (spec_BookOk.snd k) spec_BookOk.can <| .cons (spec_DeltaOk.snd k) spec_DeltaOk.can <| .cons (spec_l5At.snd k) spec_l5At.can <| .cons (spec_l5Book.snd k) spec_l5Book.can <| .cons (spec_l5Do.snd k) spec_l5Do.can <| .nil
theorem spec_DeltaDo.can : Can Try.prog 8 := can_of (fn := Try.f8) (by kernel_rfl) (by kernel_rfl) (by kernel_rfl)
theorem spec_DeltaDo.snd (k : Nat) : Snd Try.prog Jp 8 ⟨spec_DeltaDo.ps, spec_DeltaDo.rs, spec_DeltaDo.F k⟩ := snd_of E_ok spec_DeltaDo.ok mixed (fn := Try.f8) (by kernel_rfl) (by kernel_rfl) (by kernel_rfl) k
noncomputable def impl_upper.C (k : Nat) : CEs := []
abbrev impl_upper.ps : List Par := [⟨(.int .u8), .rd⟩]
abbrev impl_upper.rs : List Res := [⟨.bool, .ro, false⟩]
def impl_upper.H : Heads := []
noncomputable def impl_upper.F : Nat → ProdT (impl_upper.ps.map (·.τ)) → Option (ProdT (outs impl_upper.ps impl_upper.rs)) := evFn E impl_upper.C impl_upper.H Try.f106 impl_upper.ps impl_upper.rs
noncomputable def impl_upper.f (k : Nat) (x0 : Int) : Option (Bool) := impl_upper.F k x0
theorem impl_upper.f_eq (k : Nat) (x0 : Int) : impl_upper.f k x0 = ifb (decide (x0 ≥ (65 : Int))) (some (decide (x0 ≤ (90 : Int)))) (some false) := by kernel_rfl
theorem impl_upper.ok (k : Nat) : CsOk Try.prog Jp (impl_upper.C k) := .nil
theorem impl_upper.can : Can Try.prog 106 := can_of (fn := Try.f106) (by kernel_rfl) (by kernel_rfl) (by kernel_rfl)
theorem impl_upper.snd (k : Nat) : Snd Try.prog Jp 106 ⟨impl_upper.ps, impl_upper.rs, impl_upper.F k⟩ := snd_of E_ok impl_upper.ok mixed (fn := Try.f106) (by kernel_rfl) (by kernel_rfl) (by kernel_rfl) k
noncomputable def impl_lower.C (k : Nat) : CEs := []
abbrev impl_lower.ps : List Par := [⟨.str, .rd⟩]
abbrev impl_lower.rs : List Res := [⟨.bool, .ro, false⟩]
def impl_lower.H : Heads := [(2, [(0, .ro), (5, .ro), (6, .ro)])]
noncomputable def impl_lower.F : Nat → ProdT (impl_lower.ps.map (·.τ)) → Option (ProdT (outs impl_lower.ps impl_lower.rs)) := evFn E impl_lower.C impl_lower.H Try.f105 impl_lower.ps impl_lower.rs
noncomputable def impl_lower.L2 (k k1 : Nat) (x0 : ByteArray) (x5 : Int) (x6 : Int) : Option (Bool) := atL E impl_lower.C impl_lower.H Try.f105 impl_lower.ps impl_lower.rs [true, false, true, true] k [] k1 (sh 20 [(0, .d .str x0 .ro), (5, .d (.int .i64) x5 .ro), (6, .d (.int .i64) x6 .ro)])
noncomputable def impl_lower.f (k : Nat) (x0 : ByteArray) : Option (Bool) := impl_lower.F k x0
theorem impl_lower.f_eq (k : Nat) (x0 : ByteArray) : impl_lower.f k x0 = impl_lower.L2 k k x0 (x0.size : Int) (0 : Int) := by kernel_rfl
theorem impl_lower.L2_eq (k k1 : Nat) (x0 : ByteArray) (x5 : Int) (x6 : Int) : impl_lower.L2 k (k1 + 1) x0 x5 x6 = ifb (decide (x6 < x5)) (ifb (decide (0 ≤ x6) && decide (x6 < (x0.size : Int))) (ifb (decide ((byteAt x0 x6) < (97 : Int))) (some false) (ifb (decide (0 ≤ x6) && decide (x6 < (x0.size : Int))) (ifb (decide ((byteAt x0 x6) > (122 : Int))) (some false) (impl_lower.L2 k k1 x0 x5 (w64 (x6 + 1)))) (none))) (none)) (some true) := by kernel_rfl
theorem impl_lower.ok (k : Nat) : CsOk Try.prog Jp (impl_lower.C k) := .nil
theorem impl_lower.can : Can Try.prog 105 := can_of (fn := Try.f105) (by kernel_rfl) (by kernel_rfl) (by kernel_rfl)
theorem impl_lower.snd (k : Nat) : Snd Try.prog Jp 105 ⟨impl_lower.ps, impl_lower.rs, impl_lower.F k⟩ := snd_of E_ok impl_lower.ok mixed (fn := Try.f105) (by kernel_rfl) (by kernel_rfl) (by kernel_rfl) k
noncomputable def i_stringslite_HasPrefix.C (k : Nat) : CEs := []
abbrev i_stringslite_HasPrefix.ps : List Par := [⟨.str, .rd⟩, ⟨.str, .rd⟩]
abbrev i_stringslite_HasPrefix.rs : List Res := [⟨.bool, .ro, false⟩]
def i_stringslite_HasPrefix.H : Heads := []
noncomputable def i_stringslite_HasPrefix.F : Nat → ProdT (i_stringslite_HasPrefix.ps.map (·.τ)) → Option (ProdT (outs i_stringslite_HasPrefix.ps i_stringslite_HasPrefix.rs)) := evFn E i_stringslite_HasPrefix.C i_stringslite_HasPrefix.H Try.f131 i_stringslite_HasPrefix.ps i_stringslite_HasPrefix.rs
noncomputable def i_stringslite_HasPrefix.f (k : Nat) (x0 : ByteArray) (x1 : ByteArray) : Option (Bool) := i_stringslite_HasPrefix.F k (x0, x1)
theorem i_stringslite_HasPrefix.f_eq (k : Nat) (x0 : ByteArray) (x1 : ByteArray) : i_stringslite_HasPrefix.f k x0 x1 = ifb (decide ((x0.size : Int) ≥ (x1.size : Int))) (ifb (decide (0 ≤ (0 : Int)) && (decide ((0 : Int) ≤ (x1.size : Int)) && decide ((x1.size : Int) ≤ (x0.size : Int)))) (some ((x0.extract (0 : Int).toNat (x1.size : Int).toNat).toList == x1.toList)) (none)) (some false) := by kernel_rfl
theorem i_stringslite_HasPrefix.ok (k : Nat) : CsOk Try.prog Jp (i_stringslite_HasPrefix.C k) := .nil
theorem i_stringslite_HasPrefix.can : Can Try.prog 131 := can_of (fn := Try.f131) (by kernel_rfl) (by kernel_rfl) (by kernel_rfl)
theorem i_stringslite_HasPrefix.snd (k : Nat) : Snd Try.prog Jp 131 ⟨i_stringslite_HasPrefix.ps, i_stringslite_HasPrefix.rs, i_stringslite_HasPrefix.F k⟩ := snd_of E_ok i_stringslite_HasPrefix.ok mixed (fn := Try.f131) (by kernel_rfl) (by kernel_rfl) (by kernel_rfl) k
noncomputable def strings_HasPrefix.C (k : Nat) : CEs := [(131, ⟨i_stringslite_HasPrefix.ps, i_stringslite_HasPrefix.rs, i_stringslite_HasPrefix.F k⟩)]
abbrev strings_HasPrefix.ps : List Par := [⟨.str, .rd⟩, ⟨.str, .rd⟩]
abbrev strings_HasPrefix.rs : List Res := [⟨.bool, .ro, false⟩]
def strings_HasPrefix.H : Heads := []
noncomputable def strings_HasPrefix.F : Nat → ProdT (strings_HasPrefix.ps.map (·.τ)) → Option (ProdT (outs strings_HasPrefix.ps strings_HasPrefix.rs)) := evFn E strings_HasPrefix.C strings_HasPrefix.H Try.f107 strings_HasPrefix.ps strings_HasPrefix.rs
noncomputable def strings_HasPrefix.f (k : Nat) (x0 : ByteArray) (x1 : ByteArray) : Option (Bool) := strings_HasPrefix.F k (x0, x1)
theorem strings_HasPrefix.f_eq (k : Nat) (x0 : ByteArray) (x1 : ByteArray) : strings_HasPrefix.f k x0 x1 = (i_stringslite_HasPrefix.f k x0 x1).bind fun (r0 : Bool) => some r0 := by kernel_rfl
theorem strings_HasPrefix.ok (k : Nat) : CsOk Try.prog Jp (strings_HasPrefix.C k) := .cons (i_stringslite_HasPrefix.snd k) i_stringslite_HasPrefix.can <| .nil
theorem strings_HasPrefix.can : Can Try.prog 107 := can_of (fn := Try.f107) (by kernel_rfl) (by kernel_rfl) (by kernel_rfl)
theorem strings_HasPrefix.snd (k : Nat) : Snd Try.prog Jp 107 ⟨strings_HasPrefix.ps, strings_HasPrefix.rs, strings_HasPrefix.F k⟩ := snd_of E_ok strings_HasPrefix.ok mixed (fn := Try.f107) (by kernel_rfl) (by kernel_rfl) (by kernel_rfl) k
noncomputable def i_stringslite_HasSuffix.C (k : Nat) : CEs := []
abbrev i_stringslite_HasSuffix.ps : List Par := [⟨.str, .rd⟩, ⟨.str, .rd⟩]
abbrev i_stringslite_HasSuffix.rs : List Res := [⟨.bool, .ro, false⟩]
def i_stringslite_HasSuffix.H : Heads := []
noncomputable def i_stringslite_HasSuffix.F : Nat → ProdT (i_stringslite_HasSuffix.ps.map (·.τ)) → Option (ProdT (outs i_stringslite_HasSuffix.ps i_stringslite_HasSuffix.rs)) := evFn E i_stringslite_HasSuffix.C i_stringslite_HasSuffix.H Try.f132 i_stringslite_HasSuffix.ps i_stringslite_HasSuffix.rs
noncomputable def i_stringslite_HasSuffix.f (k : Nat) (x0 : ByteArray) (x1 : ByteArray) : Option (Bool) := i_stringslite_HasSuffix.F k (x0, x1)
theorem i_stringslite_HasSuffix.f_eq (k : Nat) (x0 : ByteArray) (x1 : ByteArray) : i_stringslite_HasSuffix.f k x0 x1 = ifb (decide ((x0.size : Int) ≥ (x1.size : Int))) (ifb (decide (0 ≤ (w64 ((x0.size : Int) - (x1.size : Int)))) && (decide ((w64 ((x0.size : Int) - (x1.size : Int))) ≤ (x0.size : Int)) && decide ((x0.size : Int) ≤ (x0.size : Int)))) (some ((x0.extract (w64 ((x0.size : Int) - (x1.size : Int))).toNat (x0.size : Int).toNat).toList == x1.toList)) (none)) (some false) := by kernel_rfl
theorem i_stringslite_HasSuffix.ok (k : Nat) : CsOk Try.prog Jp (i_stringslite_HasSuffix.C k) := .nil
theorem i_stringslite_HasSuffix.can : Can Try.prog 132 := can_of (fn := Try.f132) (by kernel_rfl) (by kernel_rfl) (by kernel_rfl)
theorem i_stringslite_HasSuffix.snd (k : Nat) : Snd Try.prog Jp 132 ⟨i_stringslite_HasSuffix.ps, i_stringslite_HasSuffix.rs, i_stringslite_HasSuffix.F k⟩ := snd_of E_ok i_stringslite_HasSuffix.ok mixed (fn := Try.f132) (by kernel_rfl) (by kernel_rfl) (by kernel_rfl) k
noncomputable def strings_HasSuffix.C (k : Nat) : CEs := [(132, ⟨i_stringslite_HasSuffix.ps, i_stringslite_HasSuffix.rs, i_stringslite_HasSuffix.F k⟩)]
abbrev strings_HasSuffix.ps : List Par := [⟨.str, .rd⟩, ⟨.str, .rd⟩]
abbrev strings_HasSuffix.rs : List Res := [⟨.bool, .ro, false⟩]
def strings_HasSuffix.H : Heads := []
noncomputable def strings_HasSuffix.F : Nat → ProdT (strings_HasSuffix.ps.map (·.τ)) → Option (ProdT (outs strings_HasSuffix.ps strings_HasSuffix.rs)) := evFn E strings_HasSuffix.C strings_HasSuffix.H Try.f108 strings_HasSuffix.ps strings_HasSuffix.rs
noncomputable def strings_HasSuffix.f (k : Nat) (x0 : ByteArray) (x1 : ByteArray) : Option (Bool) := strings_HasSuffix.F k (x0, x1)
theorem strings_HasSuffix.f_eq (k : Nat) (x0 : ByteArray) (x1 : ByteArray) : strings_HasSuffix.f k x0 x1 = (i_stringslite_HasSuffix.f k x0 x1).bind fun (r0 : Bool) => some r0 := by kernel_rfl
theorem strings_HasSuffix.ok (k : Nat) : CsOk Try.prog Jp (strings_HasSuffix.C k) := .cons (i_stringslite_HasSuffix.snd k) i_stringslite_HasSuffix.can <| .nil
theorem strings_HasSuffix.can : Can Try.prog 108 := can_of (fn := Try.f108) (by kernel_rfl) (by kernel_rfl) (by kernel_rfl)
theorem strings_HasSuffix.snd (k : Nat) : Snd Try.prog Jp 108 ⟨strings_HasSuffix.ps, strings_HasSuffix.rs, strings_HasSuffix.F k⟩ := snd_of E_ok strings_HasSuffix.ok mixed (fn := Try.f108) (by kernel_rfl) (by kernel_rfl) (by kernel_rfl) k
noncomputable def impl_AffixOk.C (k : Nat) : CEs := [(106, ⟨impl_upper.ps, impl_upper.rs, impl_upper.F k⟩), (105, ⟨impl_lower.ps, impl_lower.rs, impl_lower.F k⟩), (107, ⟨strings_HasPrefix.ps, strings_HasPrefix.rs, strings_HasPrefix.F k⟩), (108, ⟨strings_HasSuffix.ps, strings_HasSuffix.rs, strings_HasSuffix.F k⟩)]
abbrev impl_AffixOk.ps : List Par := [⟨t71, .rd⟩]
abbrev impl_AffixOk.rs : List Res := [⟨.bool, .ro, false⟩]
def impl_AffixOk.H : Heads := [(4, [(1, .ro), (22, (.own .ro)), (23, .ro), (24, .ro)])]
noncomputable def impl_AffixOk.F : Nat → ProdT (impl_AffixOk.ps.map (·.τ)) → Option (ProdT (outs impl_AffixOk.ps impl_AffixOk.rs)) := evFn E impl_AffixOk.C impl_AffixOk.H Try.f85 impl_AffixOk.ps impl_AffixOk.rs
noncomputable def impl_AffixOk.L4 (k k1 : Nat) (x1 : Aff) (x22 : List ByteArray) (x23 : Int) (x24 : Int) : Option (Bool) := atL E impl_AffixOk.C impl_AffixOk.H Try.f85 impl_AffixOk.ps impl_AffixOk.rs [true, true, false, true, true] k [] k1 (sh 49 [(1, .box t71 x1 .ro none), (22, .d (.row .str) x22 (.own .ro)), (23, .d (.int .i64) x23 .ro), (24, .d (.int .i64) x24 .ro)])
noncomputable def impl_AffixOk.f (k : Nat) (x0 : Aff) : Option (Bool) := impl_AffixOk.F k x0
theorem impl_AffixOk.f_eq (k : Nat) (x0 : Aff) : impl_AffixOk.f k x0 = ifb ((x0.1.size : Int) != (1 : Int)) (some false) (ifb (decide (0 ≤ (0 : Int)) && decide ((0 : Int) < (x0.1.size : Int))) ((impl_upper.f k (byteAt x0.1 (0 : Int))).bind fun (r0 : Bool) => ifb (!r0) (some false) (impl_AffixOk.L4 k k x0 [x0.2.2.1, x0.2.2.2.1, x0.2.2.2.2] ([x0.2.2.1, x0.2.2.2.1, x0.2.2.2.2].length : Int) (0 : Int))) (none)) := by kernel_rfl
theorem impl_AffixOk.L4_eq (k k1 : Nat) (x1 : Aff) (x22 : List ByteArray) (x23 : Int) (x24 : Int) : impl_AffixOk.L4 k (k1 + 1) x1 x22 x23 x24 = ifb (decide (x24 < x23)) (ifb (decide (0 ≤ x24) && decide (x24 < (x22.length : Int))) (ifb (decide (((x22.getD x24.toNat bz).size : Int) > (4 : Int))) (some false) ((impl_lower.f k1 (x22.getD x24.toNat bz)).bind fun (r1 : Bool) => ifb (!r1) (some false) (impl_AffixOk.L4 k k1 x1 x22 x23 (w64 (x24 + 1))))) (none)) (ifb x1.2.1 ((strings_HasPrefix.f k x1.2.2.2.2 x1.2.2.1).bind fun (r2 : Bool) => some r2) ((strings_HasSuffix.f k x1.2.2.2.2 x1.2.2.1).bind fun (r3 : Bool) => some r3)) := by kernel_rfl
theorem impl_AffixOk.ok (k : Nat) : CsOk Try.prog Jp (impl_AffixOk.C k) := .cons (impl_upper.snd k) impl_upper.can <| .cons (impl_lower.snd k) impl_lower.can <| .cons (strings_HasPrefix.snd k) strings_HasPrefix.can <| .cons (strings_HasSuffix.snd k) strings_HasSuffix.can <| .nil
theorem impl_AffixOk.can : Can Try.prog 85 := can_of (fn := Try.f85) (by kernel_rfl) (by kernel_rfl) (by kernel_rfl)
theorem impl_AffixOk.snd (k : Nat) : Snd Try.prog Jp 85 ⟨impl_AffixOk.ps, impl_AffixOk.rs, impl_AffixOk.F k⟩ := snd_of E_ok impl_AffixOk.ok mixed (fn := Try.f85) (by kernel_rfl) (by kernel_rfl) (by kernel_rfl) k
noncomputable def slices_Index_impl_Affix_impl_Affix.C (k : Nat) : CEs := []
abbrev slices_Index_impl_Affix_impl_Affix.ps : List Par := [⟨t23, .rd⟩, ⟨t71, .rd⟩]
abbrev slices_Index_impl_Affix_impl_Affix.rs : List Res := [⟨(.int .i64), .ro, false⟩]
def slices_Index_impl_Affix_impl_Affix.H : Heads := [(2, [(0, .ro), (3, .ro), (7, .ro), (8, .ro)])]
noncomputable def slices_Index_impl_Affix_impl_Affix.F : Nat → ProdT (slices_Index_impl_Affix_impl_Affix.ps.map (·.τ)) → Option (ProdT (outs slices_Index_impl_Affix_impl_Affix.ps slices_Index_impl_Affix_impl_Affix.rs)) := evFn E slices_Index_impl_Affix_impl_Affix.C slices_Index_impl_Affix_impl_Affix.H Try.f109 slices_Index_impl_Affix_impl_Affix.ps slices_Index_impl_Affix_impl_Affix.rs
noncomputable def slices_Index_impl_Affix_impl_Affix.L2 (k k1 : Nat) (x0 : List Aff) (x3 : Aff) (x7 : Int) (x8 : Int) : Option (Int) := atL E slices_Index_impl_Affix_impl_Affix.C slices_Index_impl_Affix_impl_Affix.H Try.f109 slices_Index_impl_Affix_impl_Affix.ps slices_Index_impl_Affix_impl_Affix.rs [true, false, true, true] k [] k1 (sh 19 [(0, .d t23 x0 .ro), (3, .box t71 x3 .ro none), (7, .d (.int .i64) x7 .ro), (8, .d (.int .i64) x8 .ro)])
noncomputable def slices_Index_impl_Affix_impl_Affix.f (k : Nat) (x0 : List Aff) (x1 : Aff) : Option (Int) := slices_Index_impl_Affix_impl_Affix.F k (x0, x1)
theorem slices_Index_impl_Affix_impl_Affix.f_eq (k : Nat) (x0 : List Aff) (x1 : Aff) : slices_Index_impl_Affix_impl_Affix.f k x0 x1 = slices_Index_impl_Affix_impl_Affix.L2 k k x0 x1 (x0.length : Int) (0 : Int) := by kernel_rfl
theorem slices_Index_impl_Affix_impl_Affix.L2_eq (k k1 : Nat) (x0 : List Aff) (x3 : Aff) (x7 : Int) (x8 : Int) : slices_Index_impl_Affix_impl_Affix.L2 k (k1 + 1) x0 x3 x7 x8 = ifb (decide (x8 < x7)) (ifb (decide (0 ≤ x8) && decide (x8 < (x0.length : Int))) (ifb ((x3.1.toList == ((x0.getD x8.toNat zA).1).toList) && ((x3.2.1 == ((x0.getD x8.toNat zA).2).1) && ((x3.2.2.1.toList == ((((x0.getD x8.toNat zA).2).2).1).toList) && ((x3.2.2.2.1.toList == (((((x0.getD x8.toNat zA).2).2).2).1).toList) && (x3.2.2.2.2.toList == (((((x0.getD x8.toNat zA).2).2).2).2).toList))))) (some x8) (slices_Index_impl_Affix_impl_Affix.L2 k k1 x0 x3 x7 (w64 (x8 + 1)))) (none)) (some (-1 : Int)) := by kernel_rfl
theorem slices_Index_impl_Affix_impl_Affix.ok (k : Nat) : CsOk Try.prog Jp (slices_Index_impl_Affix_impl_Affix.C k) := .nil
theorem slices_Index_impl_Affix_impl_Affix.can : Can Try.prog 109 := can_of (fn := Try.f109) (by kernel_rfl) (by kernel_rfl) (by kernel_rfl)
theorem slices_Index_impl_Affix_impl_Affix.snd (k : Nat) : Snd Try.prog Jp 109 ⟨slices_Index_impl_Affix_impl_Affix.ps, slices_Index_impl_Affix_impl_Affix.rs, slices_Index_impl_Affix_impl_Affix.F k⟩ := snd_of E_ok slices_Index_impl_Affix_impl_Affix.ok mixed (fn := Try.f109) (by kernel_rfl) (by kernel_rfl) (by kernel_rfl) k
noncomputable def slices_Contains_impl_Affix_impl_Affix.C (k : Nat) : CEs := [(109, ⟨slices_Index_impl_Affix_impl_Affix.ps, slices_Index_impl_Affix_impl_Affix.rs, slices_Index_impl_Affix_impl_Affix.F k⟩)]
abbrev slices_Contains_impl_Affix_impl_Affix.ps : List Par := [⟨t23, .rd⟩, ⟨t71, .rd⟩]
abbrev slices_Contains_impl_Affix_impl_Affix.rs : List Res := [⟨.bool, .ro, false⟩]
def slices_Contains_impl_Affix_impl_Affix.H : Heads := []
noncomputable def slices_Contains_impl_Affix_impl_Affix.F : Nat → ProdT (slices_Contains_impl_Affix_impl_Affix.ps.map (·.τ)) → Option (ProdT (outs slices_Contains_impl_Affix_impl_Affix.ps slices_Contains_impl_Affix_impl_Affix.rs)) := evFn E slices_Contains_impl_Affix_impl_Affix.C slices_Contains_impl_Affix_impl_Affix.H Try.f86 slices_Contains_impl_Affix_impl_Affix.ps slices_Contains_impl_Affix_impl_Affix.rs
noncomputable def slices_Contains_impl_Affix_impl_Affix.f (k : Nat) (x0 : List Aff) (x1 : Aff) : Option (Bool) := slices_Contains_impl_Affix_impl_Affix.F k (x0, x1)
theorem slices_Contains_impl_Affix_impl_Affix.f_eq (k : Nat) (x0 : List Aff) (x1 : Aff) : slices_Contains_impl_Affix_impl_Affix.f k x0 x1 = (slices_Index_impl_Affix_impl_Affix.f k x0 x1).bind fun (r0 : Int) => some (decide (r0 ≥ (0 : Int))) := by kernel_rfl
theorem slices_Contains_impl_Affix_impl_Affix.ok (k : Nat) : CsOk Try.prog Jp (slices_Contains_impl_Affix_impl_Affix.C k) := .cons (slices_Index_impl_Affix_impl_Affix.snd k) slices_Index_impl_Affix_impl_Affix.can <| .nil
theorem slices_Contains_impl_Affix_impl_Affix.can : Can Try.prog 86 := can_of (fn := Try.f86) (by kernel_rfl) (by kernel_rfl) (by kernel_rfl)
theorem slices_Contains_impl_Affix_impl_Affix.snd (k : Nat) : Snd Try.prog Jp 86 ⟨slices_Contains_impl_Affix_impl_Affix.ps, slices_Contains_impl_Affix_impl_Affix.rs, slices_Contains_impl_Affix_impl_Affix.F k⟩ := snd_of E_ok slices_Contains_impl_Affix_impl_Affix.ok mixed (fn := Try.f86) (by kernel_rfl) (by kernel_rfl) (by kernel_rfl) k
noncomputable def impl_affixesOk.C (k : Nat) : CEs := [(85, ⟨impl_AffixOk.ps, impl_AffixOk.rs, impl_AffixOk.F k⟩), (86, ⟨slices_Contains_impl_Affix_impl_Affix.ps, slices_Contains_impl_Affix_impl_Affix.rs, slices_Contains_impl_Affix_impl_Affix.F k⟩)]
abbrev impl_affixesOk.ps : List Par := [⟨t23, .rd⟩]
abbrev impl_affixesOk.rs : List Res := [⟨.bool, .ro, false⟩]
def impl_affixesOk.H : Heads := [(2, [(0, .ro), (5, .ro), (6, .ro), (7, .ro)])]
noncomputable def impl_affixesOk.F : Nat → ProdT (impl_affixesOk.ps.map (·.τ)) → Option (ProdT (outs impl_affixesOk.ps impl_affixesOk.rs)) := evFn E impl_affixesOk.C impl_affixesOk.H Try.f43 impl_affixesOk.ps impl_affixesOk.rs
noncomputable def impl_affixesOk.L2 (k k1 : Nat) (x0 : List Aff) (x5 : List Aff) (x6 : Int) (x7 : Int) : Option (Bool) := atL E impl_affixesOk.C impl_affixesOk.H Try.f43 impl_affixesOk.ps impl_affixesOk.rs [true, false, true, true] k [] k1 (sh 26 [(0, .d t23 x0 .ro), (5, .d t23 x5 .ro), (6, .d (.int .i64) x6 .ro), (7, .d (.int .i64) x7 .ro)])
noncomputable def impl_affixesOk.f (k : Nat) (x0 : List Aff) : Option (Bool) := impl_affixesOk.F k x0
theorem impl_affixesOk.f_eq (k : Nat) (x0 : List Aff) : impl_affixesOk.f k x0 = impl_affixesOk.L2 k k x0 x0 (x0.length : Int) (0 : Int) := by kernel_rfl
theorem impl_affixesOk.L2_eq (k k1 : Nat) (x0 : List Aff) (x5 : List Aff) (x6 : Int) (x7 : Int) : impl_affixesOk.L2 k (k1 + 1) x0 x5 x6 x7 = ifb (decide (x7 < x6)) (ifb (decide (0 ≤ x7) && decide (x7 < (x5.length : Int))) ((impl_AffixOk.f k1 (x5.getD x7.toNat zA)).bind fun (r0 : Bool) => ifb (!r0) (some false) (ifb (decide (0 ≤ (0 : Int)) && (decide ((0 : Int) ≤ x7) && decide (x7 ≤ (x0.length : Int)))) ((slices_Contains_impl_Affix_impl_Affix.f k1 ((x0.take x7.toNat).drop (0 : Int).toNat) (x5.getD x7.toNat zA)).bind fun (r1 : Bool) => ifb r1 (some false) (impl_affixesOk.L2 k k1 x0 x5 x6 (w64 (x7 + 1)))) (none))) (none)) (some (decide ((x0.length : Int) ≤ (8 : Int)))) := by kernel_rfl
theorem impl_affixesOk.ok (k : Nat) : CsOk Try.prog Jp (impl_affixesOk.C k) := .cons (impl_AffixOk.snd k) impl_AffixOk.can <| .cons (slices_Contains_impl_Affix_impl_Affix.snd k) slices_Contains_impl_Affix_impl_Affix.can <| .nil
theorem impl_affixesOk.can : Can Try.prog 43 := can_of (fn := Try.f43) (by kernel_rfl) (by kernel_rfl) (by kernel_rfl)
theorem impl_affixesOk.snd (k : Nat) : Snd Try.prog Jp 43 ⟨impl_affixesOk.ps, impl_affixesOk.rs, impl_affixesOk.F k⟩ := snd_of E_ok impl_affixesOk.ok mixed (fn := Try.f43) (by kernel_rfl) (by kernel_rfl) (by kernel_rfl) k
noncomputable def impl_within.C (k : Nat) : CEs := []
abbrev impl_within.ps : List Par := [⟨(.int .i64), .rd⟩, ⟨(.int .i64), .rd⟩, ⟨(.int .i64), .rd⟩]
abbrev impl_within.rs : List Res := [⟨.bool, .ro, false⟩]
def impl_within.H : Heads := []
noncomputable def impl_within.F : Nat → ProdT (impl_within.ps.map (·.τ)) → Option (ProdT (outs impl_within.ps impl_within.rs)) := evFn E impl_within.C impl_within.H Try.f104 impl_within.ps impl_within.rs
noncomputable def impl_within.f (k : Nat) (x0 : Int) (x1 : Int) (x2 : Int) : Option (Bool) := impl_within.F k (x0, x1, x2)
theorem impl_within.f_eq (k : Nat) (x0 : Int) (x1 : Int) (x2 : Int) : impl_within.f k x0 x1 x2 = ifb (decide (x0 ≥ x1)) (some (decide (x0 ≤ x2))) (some false) := by kernel_rfl
theorem impl_within.ok (k : Nat) : CsOk Try.prog Jp (impl_within.C k) := .nil
theorem impl_within.can : Can Try.prog 104 := can_of (fn := Try.f104) (by kernel_rfl) (by kernel_rfl) (by kernel_rfl)
theorem impl_within.snd (k : Nat) : Snd Try.prog Jp 104 ⟨impl_within.ps, impl_within.rs, impl_within.F k⟩ := snd_of E_ok impl_within.ok mixed (fn := Try.f104) (by kernel_rfl) (by kernel_rfl) (by kernel_rfl) k
noncomputable def impl_WordOk.C (k : Nat) : CEs := [(105, ⟨impl_lower.ps, impl_lower.rs, impl_lower.F k⟩), (104, ⟨impl_within.ps, impl_within.rs, impl_within.F k⟩)]
abbrev impl_WordOk.ps : List Par := [⟨.str, .rd⟩]
abbrev impl_WordOk.rs : List Res := [⟨.bool, .ro, false⟩]
def impl_WordOk.H : Heads := []
noncomputable def impl_WordOk.F : Nat → ProdT (impl_WordOk.ps.map (·.τ)) → Option (ProdT (outs impl_WordOk.ps impl_WordOk.rs)) := evFn E impl_WordOk.C impl_WordOk.H Try.f83 impl_WordOk.ps impl_WordOk.rs
noncomputable def impl_WordOk.f (k : Nat) (x0 : ByteArray) : Option (Bool) := impl_WordOk.F k x0
theorem impl_WordOk.f_eq (k : Nat) (x0 : ByteArray) : impl_WordOk.f k x0 = (impl_within.f k (x0.size : Int) (1 : Int) (12 : Int)).bind fun (r0 : Bool) => ifb r0 ((impl_lower.f k x0).bind fun (r1 : Bool) => some r1) (some false) := by kernel_rfl
theorem impl_WordOk.ok (k : Nat) : CsOk Try.prog Jp (impl_WordOk.C k) := .cons (impl_lower.snd k) impl_lower.can <| .cons (impl_within.snd k) impl_within.can <| .nil
theorem impl_WordOk.can : Can Try.prog 83 := can_of (fn := Try.f83) (by kernel_rfl) (by kernel_rfl) (by kernel_rfl)
theorem impl_WordOk.snd (k : Nat) : Snd Try.prog Jp 83 ⟨impl_WordOk.ps, impl_WordOk.rs, impl_WordOk.F k⟩ := snd_of E_ok impl_WordOk.ok mixed (fn := Try.f83) (by kernel_rfl) (by kernel_rfl) (by kernel_rfl) k
noncomputable def impl_entryOk.C (k : Nat) : CEs := [(106, ⟨impl_upper.ps, impl_upper.rs, impl_upper.F k⟩), (83, ⟨impl_WordOk.ps, impl_WordOk.rs, impl_WordOk.F k⟩)]
abbrev impl_entryOk.ps : List Par := [⟨t37, .rd⟩]
abbrev impl_entryOk.rs : List Res := [⟨.bool, .ro, false⟩]
def impl_entryOk.H : Heads := [(2, [(1, .ro), (6, .ro), (7, .ro)])]
noncomputable def impl_entryOk.F : Nat → ProdT (impl_entryOk.ps.map (·.τ)) → Option (ProdT (outs impl_entryOk.ps impl_entryOk.rs)) := evFn E impl_entryOk.C impl_entryOk.H Try.f84 impl_entryOk.ps impl_entryOk.rs
noncomputable def impl_entryOk.L2 (k k1 : Nat) (x1 : ByteArray × ByteArray) (x6 : Int) (x7 : Int) : Option (Bool) := atL E impl_entryOk.C impl_entryOk.H Try.f84 impl_entryOk.ps impl_entryOk.rs [true, false, true, true] k [] k1 (sh 42 [(1, .box t37 x1 .ro none), (6, .d (.int .i64) x6 .ro), (7, .d (.int .i64) x7 .ro)])
noncomputable def impl_entryOk.f (k : Nat) (x0 : ByteArray × ByteArray) : Option (Bool) := impl_entryOk.F k x0
theorem impl_entryOk.f_eq (k : Nat) (x0 : ByteArray × ByteArray) : impl_entryOk.f k x0 = impl_entryOk.L2 k k x0 (x0.2.size : Int) (0 : Int) := by kernel_rfl
theorem impl_entryOk.L2_eq (k k1 : Nat) (x1 : ByteArray × ByteArray) (x6 : Int) (x7 : Int) : impl_entryOk.L2 k (k1 + 1) x1 x6 x7 = ifb (decide (x7 < x6)) (ifb (decide (0 ≤ x7) && decide (x7 < (x1.2.size : Int))) ((impl_upper.f k1 (byteAt x1.2 x7)).bind fun (r0 : Bool) => ifb (!r0) (some false) (ifb (decide (x7 > 0)) (ifb (decide (0 ≤ (w64 (x7 - 1))) && decide ((w64 (x7 - 1)) < (x1.2.size : Int))) (ifb (decide (0 ≤ x7) && decide (x7 < (x1.2.size : Int))) (ifb (decide ((byteAt x1.2 (w64 (x7 - 1))) ≥ (byteAt x1.2 x7))) (some false) (impl_entryOk.L2 k k1 x1 x6 (w64 (x7 + 1)))) (none)) (none)) (impl_entryOk.L2 k k1 x1 x6 (w64 (x7 + 1))))) (none)) ((impl_WordOk.f k x1.1).bind fun (r1 : Bool) => ifb r1 (some (decide ((x1.2.size : Int) ≤ (4 : Int)))) (some false)) := by kernel_rfl
theorem impl_entryOk.ok (k : Nat) : CsOk Try.prog Jp (impl_entryOk.C k) := .cons (impl_upper.snd k) impl_upper.can <| .cons (impl_WordOk.snd k) impl_WordOk.can <| .nil
theorem impl_entryOk.can : Can Try.prog 84 := can_of (fn := Try.f84) (by kernel_rfl) (by kernel_rfl) (by kernel_rfl)
theorem impl_entryOk.snd (k : Nat) : Snd Try.prog Jp 84 ⟨impl_entryOk.ps, impl_entryOk.rs, impl_entryOk.F k⟩ := snd_of E_ok impl_entryOk.ok mixed (fn := Try.f84) (by kernel_rfl) (by kernel_rfl) (by kernel_rfl) k
noncomputable def impl_entriesOk.C (k : Nat) : CEs := [(84, ⟨impl_entryOk.ps, impl_entryOk.rs, impl_entryOk.F k⟩)]
abbrev impl_entriesOk.ps : List Par := [⟨t24, .rd⟩]
abbrev impl_entriesOk.rs : List Res := [⟨.bool, .ro, false⟩]
def impl_entriesOk.H : Heads := [(2, [(0, .ro), (5, .ro), (6, .ro), (7, .ro)])]
noncomputable def impl_entriesOk.F : Nat → ProdT (impl_entriesOk.ps.map (·.τ)) → Option (ProdT (outs impl_entriesOk.ps impl_entriesOk.rs)) := evFn E impl_entriesOk.C impl_entriesOk.H Try.f42 impl_entriesOk.ps impl_entriesOk.rs
noncomputable def impl_entriesOk.L2 (k k1 : Nat) (x0 : List En) (x5 : List En) (x6 : Int) (x7 : Int) : Option (Bool) := atL E impl_entriesOk.C impl_entriesOk.H Try.f42 impl_entriesOk.ps impl_entriesOk.rs [true, false, true, true] k [] k1 (sh 34 [(0, .d t24 x0 .ro), (5, .d t24 x5 .ro), (6, .d (.int .i64) x6 .ro), (7, .d (.int .i64) x7 .ro)])
noncomputable def impl_entriesOk.f (k : Nat) (x0 : List En) : Option (Bool) := impl_entriesOk.F k x0
theorem impl_entriesOk.f_eq (k : Nat) (x0 : List En) : impl_entriesOk.f k x0 = impl_entriesOk.L2 k k x0 x0 (x0.length : Int) (0 : Int) := by kernel_rfl
theorem impl_entriesOk.L2_eq (k k1 : Nat) (x0 : List En) (x5 : List En) (x6 : Int) (x7 : Int) : impl_entriesOk.L2 k (k1 + 1) x0 x5 x6 x7 = ifb (decide (x7 < x6)) (ifb (decide (0 ≤ x7) && decide (x7 < (x5.length : Int))) ((impl_entryOk.f k1 (x5.getD x7.toNat zE)).bind fun (r0 : Bool) => ifb (!r0) (some false) (ifb (decide (x7 > 0)) (ifb (decide (0 ≤ (w64 (x7 - 1))) && decide ((w64 (x7 - 1)) < (x0.length : Int))) (ifb (!(Op.bytesLess ((x0.getD ((w64 (x7 - 1)).toNat) zE).1).toList ((x5.getD x7.toNat zE).1).toList)) (some false) (impl_entriesOk.L2 k k1 x0 x5 x6 (w64 (x7 + 1)))) (none)) (impl_entriesOk.L2 k k1 x0 x5 x6 (w64 (x7 + 1))))) (none)) (some (decide ((x0.length : Int) ≤ (24 : Int)))) := by kernel_rfl
theorem impl_entriesOk.ok (k : Nat) : CsOk Try.prog Jp (impl_entriesOk.C k) := .cons (impl_entryOk.snd k) impl_entryOk.can <| .nil
theorem impl_entriesOk.can : Can Try.prog 42 := can_of (fn := Try.f42) (by kernel_rfl) (by kernel_rfl) (by kernel_rfl)
theorem impl_entriesOk.snd (k : Nat) : Snd Try.prog Jp 42 ⟨impl_entriesOk.ps, impl_entriesOk.rs, impl_entriesOk.F k⟩ := snd_of E_ok impl_entriesOk.ok mixed (fn := Try.f42) (by kernel_rfl) (by kernel_rfl) (by kernel_rfl) k
noncomputable def impl_BookOk.C (k : Nat) : CEs := [(43, ⟨impl_affixesOk.ps, impl_affixesOk.rs, impl_affixesOk.F k⟩), (42, ⟨impl_entriesOk.ps, impl_entriesOk.rs, impl_entriesOk.F k⟩)]
abbrev impl_BookOk.ps : List Par := [⟨t25, .rd⟩]
abbrev impl_BookOk.rs : List Res := [⟨.bool, .ro, false⟩]
def impl_BookOk.H : Heads := []
noncomputable def impl_BookOk.F : Nat → ProdT (impl_BookOk.ps.map (·.τ)) → Option (ProdT (outs impl_BookOk.ps impl_BookOk.rs)) := evFn E impl_BookOk.C impl_BookOk.H Try.f14 impl_BookOk.ps impl_BookOk.rs
noncomputable def impl_BookOk.f (k : Nat) (x0 : Book) : Option (Bool) := impl_BookOk.F k x0
theorem impl_BookOk.f_eq (k : Nat) (x0 : Book) : impl_BookOk.f k x0 = (impl_affixesOk.f k x0.1).bind fun (r0 : Bool) => ifb r0 ((impl_entriesOk.f k x0.2).bind fun (r1 : Bool) => some r1) (some false) := by kernel_rfl
theorem impl_BookOk.ok (k : Nat) : CsOk Try.prog Jp (impl_BookOk.C k) := .cons (impl_affixesOk.snd k) impl_affixesOk.can <| .cons (impl_entriesOk.snd k) impl_entriesOk.can <| .nil
theorem impl_BookOk.can : Can Try.prog 14 := can_of (fn := Try.f14) (by kernel_rfl) (by kernel_rfl) (by kernel_rfl)
theorem impl_BookOk.snd (k : Nat) : Snd Try.prog Jp 14 ⟨impl_BookOk.ps, impl_BookOk.rs, impl_BookOk.F k⟩ := snd_of E_ok impl_BookOk.ok mixed (fn := Try.f14) (by kernel_rfl) (by kernel_rfl) (by kernel_rfl) k
noncomputable def impl_wordsOk.C (k : Nat) : CEs := [(83, ⟨impl_WordOk.ps, impl_WordOk.rs, impl_WordOk.F k⟩)]
abbrev impl_wordsOk.ps : List Par := [⟨(.row .str), .rd⟩, ⟨(.int .i64), .rd⟩]
abbrev impl_wordsOk.rs : List Res := [⟨.bool, .ro, false⟩]
def impl_wordsOk.H : Heads := [(2, [(0, .ro), (1, .ro), (7, .ro), (8, .ro), (9, .ro)])]
noncomputable def impl_wordsOk.F : Nat → ProdT (impl_wordsOk.ps.map (·.τ)) → Option (ProdT (outs impl_wordsOk.ps impl_wordsOk.rs)) := evFn E impl_wordsOk.C impl_wordsOk.H Try.f41 impl_wordsOk.ps impl_wordsOk.rs
noncomputable def impl_wordsOk.L2 (k k1 : Nat) (x0 : List ByteArray) (x1 : Int) (x7 : List ByteArray) (x8 : Int) (x9 : Int) : Option (Bool) := atL E impl_wordsOk.C impl_wordsOk.H Try.f41 impl_wordsOk.ps impl_wordsOk.rs [true, false, true, true] k [] k1 (sh 35 [(0, .d (.row .str) x0 .ro), (1, .d (.int .i64) x1 .ro), (7, .d (.row .str) x7 .ro), (8, .d (.int .i64) x8 .ro), (9, .d (.int .i64) x9 .ro)])
noncomputable def impl_wordsOk.f (k : Nat) (x0 : List ByteArray) (x1 : Int) : Option (Bool) := impl_wordsOk.F k (x0, x1)
theorem impl_wordsOk.f_eq (k : Nat) (x0 : List ByteArray) (x1 : Int) : impl_wordsOk.f k x0 x1 = impl_wordsOk.L2 k k x0 x1 x0 (x0.length : Int) (0 : Int) := by kernel_rfl
theorem impl_wordsOk.L2_eq (k k1 : Nat) (x0 : List ByteArray) (x1 : Int) (x7 : List ByteArray) (x8 : Int) (x9 : Int) : impl_wordsOk.L2 k (k1 + 1) x0 x1 x7 x8 x9 = ifb (decide (x9 < x8)) (ifb (decide (0 ≤ x9) && decide (x9 < (x7.length : Int))) ((impl_WordOk.f k1 (x7.getD x9.toNat bz)).bind fun (r0 : Bool) => ifb (!r0) (some false) (ifb (decide (x9 > 0)) (ifb (decide (0 ≤ (w64 (x9 - 1))) && decide ((w64 (x9 - 1)) < (x0.length : Int))) (ifb (!(Op.bytesLess (x0.getD ((w64 (x9 - 1)).toNat) bz).toList (x7.getD x9.toNat bz).toList)) (some false) (impl_wordsOk.L2 k k1 x0 x1 x7 x8 (w64 (x9 + 1)))) (none)) (impl_wordsOk.L2 k k1 x0 x1 x7 x8 (w64 (x9 + 1))))) (none)) (some (decide ((x0.length : Int) ≤ x1))) := by kernel_rfl
theorem impl_wordsOk.ok (k : Nat) : CsOk Try.prog Jp (impl_wordsOk.C k) := .cons (impl_WordOk.snd k) impl_WordOk.can <| .nil
theorem impl_wordsOk.can : Can Try.prog 41 := can_of (fn := Try.f41) (by kernel_rfl) (by kernel_rfl) (by kernel_rfl)
theorem impl_wordsOk.snd (k : Nat) : Snd Try.prog Jp 41 ⟨impl_wordsOk.ps, impl_wordsOk.rs, impl_wordsOk.F k⟩ := snd_of E_ok impl_wordsOk.ok mixed (fn := Try.f41) (by kernel_rfl) (by kernel_rfl) (by kernel_rfl) k
noncomputable def impl_DeltaOk.C (k : Nat) : CEs := [(34, ⟨impl_entryAt.ps, impl_entryAt.rs, impl_entryAt.F k⟩), (43, ⟨impl_affixesOk.ps, impl_affixesOk.rs, impl_affixesOk.F k⟩), (42, ⟨impl_entriesOk.ps, impl_entriesOk.rs, impl_entriesOk.F k⟩), (41, ⟨impl_wordsOk.ps, impl_wordsOk.rs, impl_wordsOk.F k⟩)]
abbrev impl_DeltaOk.ps : List Par := [⟨t28, .rd⟩]
abbrev impl_DeltaOk.rs : List Res := [⟨.bool, .ro, false⟩]
def impl_DeltaOk.H : Heads := [(4, [(1, .ro), (33, .ro), (34, .ro), (35, .ro)])]
noncomputable def impl_DeltaOk.F : Nat → ProdT (impl_DeltaOk.ps.map (·.τ)) → Option (ProdT (outs impl_DeltaOk.ps impl_DeltaOk.rs)) := evFn E impl_DeltaOk.C impl_DeltaOk.H Try.f10 impl_DeltaOk.ps impl_DeltaOk.rs
noncomputable def impl_DeltaOk.L4 (k k1 : Nat) (x1 : Delta) (x33 : List ByteArray) (x34 : Int) (x35 : Int) : Option (Bool) := atL E impl_DeltaOk.C impl_DeltaOk.H Try.f10 impl_DeltaOk.ps impl_DeltaOk.rs [true, true, false, true, true] k [] k1 (sh 45 [(1, .box t28 x1 .ro none), (33, .d (.row .str) x33 .ro), (34, .d (.int .i64) x34 .ro), (35, .d (.int .i64) x35 .ro)])
noncomputable def impl_DeltaOk.f (k : Nat) (x0 : Delta) : Option (Bool) := impl_DeltaOk.F k x0
theorem impl_DeltaOk.f_eq (k : Nat) (x0 : Delta) : impl_DeltaOk.f k x0 = (impl_wordsOk.f k x0.1 (24 : Int)).bind fun (r0 : Bool) => ifb (!r0) (some false) ((impl_entriesOk.f k x0.2.1).bind fun (r1 : Bool) => ifb (!r1) (some false) ((impl_affixesOk.f k x0.2.2.2).bind fun (r2 : Bool) => ifb (!r2) (some false) (ifb (!x0.2.2.1) (ifb (decide ((x0.2.2.2.length : Int) > 0)) (some false) (impl_DeltaOk.L4 k k x0 x0.1 (x0.1.length : Int) (0 : Int))) (impl_DeltaOk.L4 k k x0 x0.1 (x0.1.length : Int) (0 : Int))))) := by kernel_rfl
theorem impl_DeltaOk.L4_eq (k k1 : Nat) (x1 : Delta) (x33 : List ByteArray) (x34 : Int) (x35 : Int) : impl_DeltaOk.L4 k (k1 + 1) x1 x33 x34 x35 = ifb (decide (x35 < x34)) (ifb (decide (0 ≤ x35) && decide (x35 < (x33.length : Int))) ((impl_entryAt.f k1 x1.2.1 (x33.getD x35.toNat bz)).bind fun (r3 : Int) => ifb (decide (r3 ≥ (0 : Int))) (some false) (impl_DeltaOk.L4 k k1 x1 x33 x34 (w64 (x35 + 1)))) (none)) (some true) := by kernel_rfl
theorem impl_DeltaOk.ok (k : Nat) : CsOk Try.prog Jp (impl_DeltaOk.C k) := .cons (impl_entryAt.snd k) impl_entryAt.can <| .cons (impl_affixesOk.snd k) impl_affixesOk.can <| .cons (impl_entriesOk.snd k) impl_entriesOk.can <| .cons (impl_wordsOk.snd k) impl_wordsOk.can <| .nil
theorem impl_DeltaOk.can : Can Try.prog 10 := can_of (fn := Try.f10) (by kernel_rfl) (by kernel_rfl) (by kernel_rfl)
theorem impl_DeltaOk.snd (k : Nat) : Snd Try.prog Jp 10 ⟨impl_DeltaOk.ps, impl_DeltaOk.rs, impl_DeltaOk.F k⟩ := snd_of E_ok impl_DeltaOk.ok mixed (fn := Try.f10) (by kernel_rfl) (by kernel_rfl) (by kernel_rfl) k
noncomputable def impl_cloneBook.C (k : Nat) : CEs := []
abbrev impl_cloneBook.ps : List Par := [⟨t25, .rd⟩]
abbrev impl_cloneBook.rs : List Res := [⟨t25, (.pr (.own .ro) (.own .ro)), false⟩]
def impl_cloneBook.H : Heads := []
noncomputable def impl_cloneBook.F : Nat → ProdT (impl_cloneBook.ps.map (·.τ)) → Option (ProdT (outs impl_cloneBook.ps impl_cloneBook.rs)) := evFn E impl_cloneBook.C impl_cloneBook.H Try.f35 impl_cloneBook.ps impl_cloneBook.rs
noncomputable def impl_cloneBook.f (k : Nat) (x0 : Book) : Option Book := impl_cloneBook.F k x0
theorem impl_cloneBook.f_eq (k : Nat) (x0 : Book) : impl_cloneBook.f k x0 = ifb (decide ((([] : List Aff).length + x0.1.length) * 72 ≤ rowMax)) (ifb (decide ((([] : List En).length + x0.2.length) * 32 ≤ rowMax)) (some ((([] : List Aff) ++ x0.1), (([] : List En) ++ x0.2))) (none)) (none) := by kernel_rfl
theorem impl_cloneBook.ok (k : Nat) : CsOk Try.prog Jp (impl_cloneBook.C k) := .nil
theorem impl_cloneBook.can : Can Try.prog 35 := can_of (fn := Try.f35) (by kernel_rfl) (by kernel_rfl) (by kernel_rfl)
theorem impl_cloneBook.snd (k : Nat) : Snd Try.prog Jp 35 ⟨impl_cloneBook.ps, impl_cloneBook.rs, impl_cloneBook.F k⟩ := snd_of E_ok impl_cloneBook.ok mixed (fn := Try.f35) (by kernel_rfl) (by kernel_rfl) (by kernel_rfl) k
end Go.Proofs.Ytabindnaedchgaa.Rf
end

section
/- Entries put in one by one by their stems: the one sorted order. Plain. -/
namespace Go.Proofs.Ytabindnaedchgaa.Rf
open Go Go.RowKit
set_option linter.unusedVariables false
set_option linter.unusedSimpArgs false

def ltE (a b : (ByteArray × ByteArray)) : Bool := Op.bytesLess a.1.toList b.1.toList
theorem ltE_eq (a b : (ByteArray × ByteArray)) : ltE a b = Go.Sort.ltStr a.1.toList b.1.toList := Go.Proofs.bytesLess_eq _ _
theorem ltE_irrefl (a : (ByteArray × ByteArray)) : ltE a a = false := by
  rw [ltE_eq]
  exact Go.Sort.swo_ltStr.irrefl _
theorem ltE_trans {a b c : (ByteArray × ByteArray)} (h1 : ltE a b = true) (h2 : ltE b c = true) : ltE a c = true := by
  rw [ltE_eq] at *
  exact Go.Sort.swo_ltStr.trans _ _ _ h1 h2
theorem ltE_ntrans {a b c : (ByteArray × ByteArray)} (h1 : ltE a b = false) (h2 : ltE b c = false) : ltE a c = false := by
  rw [ltE_eq] at *
  exact Go.Sort.swo_ltStr.ntrans _ _ _ h1 h2
theorem ltE_asymm {a b : (ByteArray × ByteArray)} (h : ltE a b = true) : ltE b a = false := by
  cases h2 : ltE b a
  · rfl
  · have h3 := ltE_trans h h2
    rw [ltE_irrefl] at h3
    cases h3
theorem ltE_tri {a b : (ByteArray × ByteArray)} (h1 : ltE a b = false) (h2 : ltE b a = false) : a.1.toList = b.1.toList := by
  rw [ltE_eq] at *
  simp only [Go.Sort.ltStr, decide_eq_false_iff_not, List.not_lt] at h1 h2
  exact List.le_antisymm h2 h1
/-- An entry put in ahead of the first one whose stem is no less. -/
def insE (e : (ByteArray × ByteArray)) : List (ByteArray × ByteArray) → List (ByteArray × ByteArray)
  | [] => [e]
  | x :: xs => if ltE x e = true then x :: insE e xs else e :: x :: xs
theorem insE_perm (e : (ByteArray × ByteArray)) : ∀ l, (insE e l).Perm (e :: l)
  | [] => .refl _
  | x :: xs => by
    unfold insE
    split
    · exact ((insE_perm e xs).cons x).trans (.swap e x xs)
    · exact .refl _
theorem insE_sorted (e : (ByteArray × ByteArray)) : ∀ l, l.Pairwise (fun a b => ltE b a = false) → (insE e l).Pairwise (fun a b => ltE b a = false)
  | [], _ => by simp [insE]
  | x :: xs, h => by
    unfold insE
    have h' := List.pairwise_cons.1 h
    by_cases c : ltE x e = true
    · rw [if_pos c]
      refine List.pairwise_cons.2 ⟨fun b hb => ?_, insE_sorted e xs h'.2⟩
      rcases List.mem_cons.1 ((insE_perm e xs).mem_iff.1 hb) with z | hb
      · rw [z]
        exact ltE_asymm c
      · exact h'.1 b hb
    · rw [if_neg c]
      have c' : ltE x e = false := by simpa using c
      refine List.pairwise_cons.2 ⟨fun b hb => ?_, h⟩
      rcases List.mem_cons.1 hb with z | hb
      · rw [z]
        exact c'
      · exact ltE_ntrans (h'.1 b hb) c'
def sortE (xs : List (ByteArray × ByteArray)) : List (ByteArray × ByteArray) := xs.foldl (fun l e => insE e l) []
theorem fold_perm : ∀ (xs l : List (ByteArray × ByteArray)), (xs.foldl (fun l e => insE e l) l).Perm (l ++ xs)
  | [], l => by simp
  | x :: xs, l => by
    refine (fold_perm xs (insE x l)).trans ?_
    refine ((insE_perm x l).append_right xs).trans ?_
    exact (List.perm_middle (a := x) (l₁ := l) (l₂ := xs)).symm
theorem fold_sorted : ∀ (xs l : List (ByteArray × ByteArray)), l.Pairwise (fun a b => ltE b a = false) → (xs.foldl (fun l e => insE e l) l).Pairwise (fun a b => ltE b a = false)
  | [], l, h => h
  | x :: xs, l, h => fold_sorted xs _ (insE_sorted x l h)
theorem stem_inj : ∀ (xs : List (ByteArray × ByteArray)), (xs.map (fun e => e.1)).Pairwise (fun a b => a ≠ b) → ∀ a ∈ xs, ∀ b ∈ xs, a.1 = b.1 → a = b
  | [], _, a, ha, _, _, _ => by simp at ha
  | x :: xs, h, a, ha, b, hb, e => by
    rw [List.map_cons, List.pairwise_cons] at h
    rcases List.mem_cons.1 ha with za | ha' <;> rcases List.mem_cons.1 hb with zb | hb'
    · rw [za, zb]
    · rw [za] at e
      exact absurd e (h.1 _ (List.mem_map.2 ⟨b, hb', rfl⟩))
    · rw [zb] at e
      exact absurd e.symm (h.1 _ (List.mem_map.2 ⟨a, ha', rfl⟩))
    · exact stem_inj xs h.2 a ha' b hb' e
theorem sort_unique {xs ys : List (ByteArray × ByteArray)} (hd : (xs.map (fun e => e.1)).Pairwise (fun a b => a ≠ b)) (hp : ys.Perm xs) (hs : ys.Pairwise (fun a b => ltE b a = false)) : ys = sortE xs := by
  have hq : (sortE xs).Perm xs := by simpa [sortE] using fold_perm xs []
  refine List.Perm.eq_of_pairwise (le := fun a b => ltE b a = false) ?_ hs (fold_sorted xs [] .nil) (hp.trans hq.symm)
  intro a b ha hb h1 h2
  have e : a.1.toList = b.1.toList := ltE_tri h2 h1
  refine stem_inj xs hd a (hp.mem_iff.1 ha) b (hq.mem_iff.1 hb) ?_
  rw [ByteArray.toList_eq, ByteArray.toList_eq] at e
  exact ByteArray.ext (Array.toList_inj.1 e)
/-- What is sorted already stays. -/
theorem insE_last (e : (ByteArray × ByteArray)) : ∀ l, (∀ x ∈ l, ltE x e = true) → insE e l = l ++ [e]
  | [], _ => rfl
  | x :: xs, h => by
    unfold insE
    rw [if_pos (h x List.mem_cons_self), insE_last e xs (fun y hy => h y (List.mem_cons_of_mem _ hy))]
    rfl
theorem fold_self : ∀ (xs l : List (ByteArray × ByteArray)), (l ++ xs).Pairwise (fun a b => ltE a b = true) → xs.foldl (fun l e => insE e l) l = l ++ xs
  | [], l, _ => by simp
  | x :: xs, l, h => by
    have h1 : ∀ y ∈ l, ltE y x = true := fun y hy => (List.pairwise_append.1 h).2.2 y hy x List.mem_cons_self
    rw [List.foldl_cons, insE_last x l h1, fold_self xs (l ++ [x]) (by simpa using h)]
    simp
theorem sortE_append (xs ys : List (ByteArray × ByteArray)) (h : xs.Pairwise (fun a b => ltE a b = true)) : sortE (xs ++ ys) = ys.foldl (fun l e => insE e l) xs := by
  unfold sortE
  rw [List.foldl_append, fold_self xs [] (by simpa using h)]
  rfl
end Go.Proofs.Ytabindnaedchgaa.Rf
end

section
/- impl.sortEntries, walked by hand: its row holds the one sorted order, where stems are apart. -/
namespace Go.Proofs.Ytabindnaedchgaa.Rf
open Go Go.RowKit Go.Sort Go.Lib
set_option linter.unusedVariables false
set_option linter.unusedSimpArgs false
theorem isNaN_calls (s : ByteArray) (w : World) : Calls Try.prog 103 #[.string s] w fun e w' => e = .returned (.bool false) ∧ w' = w := by
  go_enter Try.func103, Try.ntmps103
  go_wp2
  go_ret
  exact ⟨by simp, rfl⟩
/-- How two texts are compared. -/
def cmpB (x y : ByteArray) : Int := if Op.bytesLess x.toList y.toList = true then -1 else if (!(Op.bytesLess x.toList y.toList || x.toList == y.toList)) = true then 1 else 0
theorem compare_calls (x y : ByteArray) (w : World) : Calls Try.prog 81 #[.string x, .string y] w fun e w' => e = .returned (.int .i64 (cmpB x y)) ∧ w' = w := by
  unfold cmpB
  cases h1 : Op.bytesLess x.toList y.toList
  · cases h2 : (x.toList == y.toList)
    · go_enter Try.func81, Try.ntmps81
      go_wp2_with (go_at_call 103; refine (isNaN_calls _ _).mono ?_; rintro e w' ⟨rfl, rfl⟩)
      go_ret
      exact ⟨by simp, rfl⟩
    · go_enter Try.func81, Try.ntmps81
      go_wp2_with (go_at_call 103; refine (isNaN_calls _ _).mono ?_; rintro e w' ⟨rfl, rfl⟩)
      go_ret
      exact ⟨by simp, rfl⟩
  · go_enter Try.func81, Try.ntmps81
    go_wp2_with (go_at_call 103; refine (isNaN_calls _ _).mono ?_; rintro e w' ⟨rfl, rfl⟩)
    go_ret
    exact ⟨by simp, rfl⟩
theorem cmpE_calls (x y : ByteArray × ByteArray) (w : World) : Calls Try.prog 80 #[.agg #[.string x.1, .string x.2], .agg #[.string y.1, .string y.2]] w fun e w' => e = .returned (.int .i64 (cmpB x.1 y.1)) ∧ ∃ q os, w' = Go.Sort.grow (w.drewN q) os := by
  go_enter Try.func80, Try.ntmps80
  go_wp2_with (go_at_call 81; refine (compare_calls _ _ _).mono ?_; rintro e w' ⟨rfl, rfl⟩)
  go_ret
  refine ⟨rfl, 0, #[.cells #[.string x.1, .string x.2] 38, .cells #[.string y.1, .string y.2] 38], ?_⟩
  unfold Go.Sort.grow
  rw [show (w.drewN 0).heap ++ #[Obj.cells #[.string x.1, .string x.2] 38, Obj.cells #[.string y.1, .string y.2] 38] = ((w.heap.push (.cells #[.string x.1, .string x.2] 38)).push (.cells #[.string y.1, .string y.2] 38)) from by apply Array.ext'; rw [show (w.drewN 0).heap = w.heap from rfl, Array.toList_append, Array.toList_push, Array.toList_push, List.append_assoc]; rfl]
  rfl
instance instSortE : Inhabited (ByteArray × ByteArray) := ⟨(ByteArray.empty, ByteArray.empty)⟩
def encS (x : ByteArray × ByteArray) : List Value := [.string x.1, .string x.2]
theorem ltOf_cmp (x y : ByteArray × ByteArray) : ltOf (fun a b : ByteArray × ByteArray => cmpB a.1 b.1) x y = ltE x y := by
  show decide (cmpB x.1 y.1 < 0) = _
  unfold cmpB ltE
  by_cases h : Op.bytesLess x.1.toList y.1.toList = true
  · rw [if_pos h, h]
    rfl
  · have h2 : Op.bytesLess x.1.toList y.1.toList = false := by simpa using h
    rw [if_neg h, h2]
    split <;> rfl
theorem swoE : SWO (ltOf fun a b : ByteArray × ByteArray => cmpB a.1 b.1) := by
  rw [show (ltOf fun a b : ByteArray × ByteArray => cmpB a.1 b.1) = ltE from funext fun x => funext fun y => ltOf_cmp x y]
  exact ⟨ltE_irrefl, fun _ _ _ => ltE_trans, fun _ _ _ => ltE_ntrans⟩
theorem flat_get (d : Array (ByteArray × ByteArray)) (j i : Nat) (hj : j < d.size) (hi : i < 2) : (flatK encS 2 d)[j * 2 + i]! = (encS d[j]!)[i]! := by
  rw [get_flatK encS 2 d (j * 2 + i) (by omega), show (j * 2 + i) / 2 = j from by omega, show (j * 2 + i) % 2 = i from by omega]
theorem heap_sorted {w : World} {g off : Nat} {cur : Array Value} {t : TypeId} {fz : Nat × Nat} (hh : w.heap[g]? = some (.cells cur t fz)) (d : Array (ByteArray × ByteArray)) (m : Nat) (os : Array Obj) :
    (sortWorldK encS 2 w g off m d os).heap[g]? = some (.cells (putCells id off (flatK encS 2 d) cur) t fz) := by
  have hlt : g < w.heap.size := (Array.getElem?_eq_some_iff.1 hh).1
  show ((w.heap.modify g (onCells (putCells id off (flatK encS 2 d)))) ++ os)[g]? = _
  rw [Array.getElem?_append_left (by rw [Array.size_modify]; exact hlt), Array.getElem?_modify, if_pos rfl, hh]
  rfl
theorem heap_other (w : World) (g off k : Nat) (hk : k ≠ g) (hlt : k < w.heap.size) (d : Array (ByteArray × ByteArray)) (m : Nat) (os : Array Obj) :
    (sortWorldK encS 2 w g off m d os).heap[k]? = w.heap[k]? := by
  show ((w.heap.modify g (onCells (putCells id off (flatK encS 2 d)))) ++ os)[k]? = _
  rw [Array.getElem?_append_left (by rw [Array.size_modify]; exact hlt), Array.getElem?_modify, if_neg (fun e => hk e.symm)]
theorem size_sorted (w : World) (g off : Nat) (d : Array (ByteArray × ByteArray)) (m : Nat) (os : Array Obj) : w.heap.size ≤ (sortWorldK encS 2 w g off m d os).heap.size := by
  show _ ≤ ((w.heap.modify g (onCells (putCells id off (flatK encS 2 d)))) ++ os).size
  rw [Array.size_append, Array.size_modify]
  omega
theorem cmp_lays (w : World) (blk off size : Nat) : CmpLays Try.prog 80 #[] encS 2 (fun a b => cmpB a.1 b.1) blk off size w := fun m os dk _ x y => by
  refine (cmpE_calls x y _).mono ?_
  rintro e w' ⟨rfl, q, os', rfl⟩
  exact ⟨rfl, q, os', rfl⟩
set_option maxHeartbeats 4000000 in
/-- the row in memory -/
theorem sort_calls (g off cap : Nat) (l : List (ByteArray × ByteArray)) (w : World) (cur : Array Value) (t : TypeId) (fz : Nat × Nat) (hh : w.heap[g]? = some (.cells cur t fz)) (hfz : ∀ o, o < cur.size → ¬(fz.1 ≤ o ∧ o < fz.2)) (hsz : off + l.length * 2 ≤ cur.size)
    (hc : ∀ j (hj : j < l.length), CAt w g (off + j * 2) [.string l[j].1, .string l[j].2]) (hd : (l.map (fun e => e.1)).Pairwise (fun a b => a ≠ b)) (hlen : l.length < 4611686018427387904) :
    Calls Try.prog 37 #[.slice (some ⟨g, off, none⟩) l.length cap] w fun e w' => e = .returned (.tuple #[]) ∧ ∃ d m os, d.size = l.length ∧ d.toList = sortE l ∧ w' = sortWorldK encS 2 w g off m d os := by
  have hgl : g < w.heap.size := (Array.getElem?_eq_some_iff.1 hh).1
  have eg : ∀ args w, (callFunc 80 args).run Try.prog w = .ok (.enter 80 args) w := enters_of Try.func80 (by kernel_rfl) rfl
  have hH : HoldsK encS 2 w g off l.toArray := by
    intro q hq
    have hq2 : q < l.length * 2 := by simpa using hq
    have hj : q / 2 < l.length := by omega
    have gf := get_flatK encS 2 l.toArray q (by simpa using hq2)
    have el : l.toArray[q / 2]! = l[q / 2] := getElem!_pos l.toArray (q / 2) (by simpa using hj)
    rw [el] at gf
    have hm : q % 2 = 0 ∨ q % 2 = 1 := by omega
    constructor
    · show _ = some ((flatK encS 2 l.toArray)[q]!)
      rw [gf]
      rcases hm with hm | hm <;> rw [hm]
      · have := hc (q / 2) hj 0 _ rfl
        rwa [show off + q / 2 * 2 + 0 = off + q by omega] at this
      · have := hc (q / 2) hj 1 _ rfl
        rwa [show off + q / 2 * 2 + 1 = off + q by omega] at this
    · have := hfz (off + q) (by omega)
      simp only [World.frozen?, hh]
      simp
      omega
  have hcall := AnyQ.slices_SortFunc Try.laysSort 2 Try.isAgg38 Try.sizeOf38 encS (fun _ => rfl) (fun x v hv => by simp [encS] at hv; rcases hv with rfl | rfl <;> rfl) (fun a b => cmpB a.1 b.1) swoE 80 #[] g off cap l.toArray w eg (cmp_lays w g off _) hH hgl (by simpa using hlen)
  have hcall' : Calls Try.prog 79 #[.slice (some ⟨g, off, none⟩) l.length cap, .func (.func 80) #[] #[]] w fun e w' => e = .returned (.tuple #[]) ∧ ∃ d' n os, PermIn 0 l.toArray.size l.toArray d' ∧ SortedIn (ltOf fun a b : ByteArray × ByteArray => cmpB a.1 b.1) 0 l.toArray.size d' ∧ w' = sortWorldK encS 2 w g off n d' os := by
    exact hcall
  clear hH hcall hc
  go_enter Try.func37, Try.ntmps37
  go_wp2_with (go_at_call 79; refine hcall'.mono ?_; rintro e w' ⟨rfl, d', m, os, hp, hs, rfl⟩)
  go_end0
  obtain ⟨hsz, _, hperm⟩ := hp
  have hsz' : d'.size = l.length := by simpa using hsz
  have hperm' : d'.toList.Perm l := by
    have e1 : d'.extract 0 l.toArray.size = d' := by rw [← hsz]; exact Array.extract_size
    rw [e1, Array.extract_size] at hperm
    simpa using hperm
  have hsort : d'.toList.Pairwise (fun a b => ltE b a = false) := by
    rw [List.pairwise_iff_getElem]
    intro i j hi hj hij
    have hi' : i < d'.size := by simpa using hi
    have hj' : j < d'.size := by simpa using hj
    have := hs i j (Nat.zero_le _) hij (by simpa [hsz'] using hj')
    rw [ltOf_cmp, getElem!_pos d' j hj', getElem!_pos d' i hi'] at this
    simpa using this
  exact ⟨rfl, d', m, os, hsz', sort_unique hd hperm' hsort, rfl⟩
abbrev impl_sortEntries.ps : List Par := [⟨.row (.st (.pair .str .str)), .io (.own .ro)⟩]
abbrev impl_sortEntries.rs : List Res := []
def impl_sortEntries.F (_ : Nat) (l : List (ByteArray × ByteArray)) : Option (List (ByteArray × ByteArray)) := if (l.map (fun e => e.1)).Pairwise (fun a b => a ≠ b) ∧ l.length < 4611686018427387904 then some (sortE l) else none
def impl_sortEntries.f (k : Nat) (l : List (ByteArray × ByteArray)) : Option (List (ByteArray × ByteArray)) := impl_sortEntries.F k l
theorem impl_sortEntries.can : Can Try.prog 37 := can_of (fn := Try.f37) (by kernel_rfl) (by kernel_rfl) (by kernel_rfl)
theorem sort_none (w : World) : Calls Try.prog 37 #[.slice none 0 0] w fun e w' => e = .returned (.tuple #[]) ∧ w' = w := by
  have hcall : Calls Try.prog 79 #[.slice none 0 0, .func (.func 80) #[] #[]] w fun e w' => e = .returned (.tuple #[]) ∧ w' = w := AnyF.slices_SortFunc_none Try.laysSort none 0 _ w
  go_enter Try.func37, Try.ntmps37
  go_wp2_with (go_at_call 79; refine hcall.mono ?_; rintro e w' ⟨rfl, rfl⟩)
  go_end0
  exact ⟨rfl, rfl⟩
theorem impl_sortEntries.snd (k : Nat) : Snd Try.prog Jp 37 ⟨impl_sortEntries.ps, impl_sortEntries.rs, impl_sortEntries.F k⟩ := by
  intro l r hr ξ w vs tk wf hG hsz lt dj hargs
  simp only [impl_sortEntries.F] at hr
  split at hr
  case isFalse => cases hr
  rename_i hd
  obtain ⟨hd, hlen⟩ := hd
  obtain rfl := Option.some.inj hr
  obtain ⟨cs, h0, h1⟩ := hargs 0 _ _ rfl rfl
  have h1 : Rel ξ w (.row (.st (.pair .str .str))) (.own .ro) l cs (tk 0) := h1
  rcases h1 with ⟨hl, hcs⟩ | ⟨a, cap, c, t, fz, Te, hcs, h2, h3, h4, h5, h6, h7, h8, h9, h10, h11⟩
  · have hl : l = [] := hl
    subst hl
    subst hcs
    obtain rfl := vs_one hsz h0
    refine (sort_none w).mono ?_
    rintro e w' ⟨rfl, rfl⟩
    refine ⟨_, ξ, Em, Em, rfl, Fr.refl _ _ _, wf, rfl, fun i p hi hp => ?_, Dj.em _, fun b hb => hb.elim (fun x => x.elim) fun x => x.elim⟩
    cases i with
    | zero =>
      simp only [List.getElem?_cons_zero, Option.some.injEq] at hi
      subst hi
      exact ⟨⟨.row (.st (.pair .str .str)), ([] : List (ByteArray × ByteArray))⟩, rfl, rfl, [.slice none 0 0], rfl, .inl ⟨rfl, rfl⟩⟩
    | succ i => simp at hi
  · obtain ⟨g, off, sp⟩ := a
    simp only at h2 h3 h4 h7 h8 h9 h11
    subst h2
    subst hcs
    obtain rfl := vs_one hsz h0
    have hn : (Ty.st (.pair .str .str)).n = 2 := rfl
    have h7 : off + cap * 2 ≤ c.size := h7
    have h6 : l.length ≤ cap := h6
    have hgl : g < w.heap.size := (Array.getElem?_eq_some_iff.1 h4).1
    refine (sort_calls g off cap l w c t fz h4 h5 (by omega) (fun j hj => ?_) hd hlen).mono ?_
    · obtain ⟨c', k1, k2, k3⟩ := h11 j hj
      obtain rfl := rel_pair k3
      exact k2
    · rintro e w' ⟨rfl, d, m, os, e1, e2, rfl⟩
      have hh := heap_sorted (off := off) h4 d m os
      have hcell : ∀ o, (sortWorldK encS 2 w g off m d os).cell? ⟨g, o, none⟩ = (putCells id off (flatK encS 2 d) c)[o]? := fun o => cell_of hh o
      have hps : (putCells id off (flatK encS 2 d) c).size = c.size := by simp [putCells]
      have F : Fr (fun b => ∃ i, tk i b) ξ w ξ (sortWorldK encS 2 w g off m d os) := by
        refine ⟨rfl, rfl, rfl, size_sorted _ _ _ _ _ _, fun b hb hn => ⟨heap_other w g off b (fun e => hn ⟨0, e ▸ h3⟩) hb d m os, rfl⟩, fun b o v ho hv => ?_, fun _ _ => Nat.le_refl _⟩
        by_cases hb : b = g
        · subst hb
          have h8 : ξ b ≤ off := h8
          rw [hcell, putCells, Array.getElem?_mapIdx]
          rw [cell_of h4] at hv
          rw [hv, Option.map_some, if_neg (by omega)]
        · rw [cell_eq (heap_other w g off b hb (cell_lt hv) d m os)]
          exact hv
      refine ⟨_, ξ, Em, tk 0, rfl, F, fun b hb => wf b (Nat.le_trans (size_sorted _ _ _ _ _ _) hb), rfl, fun i p hi hp => ?_, Dj.em _, fun b hb => hb.elim (fun x => x.elim) fun x => ⟨.inl ⟨0, x⟩, Nat.lt_of_lt_of_le (lt 0 b x) (size_sorted _ _ _ _ _ _)⟩⟩
      cases i with
      | succ i => simp at hi
      | zero =>
        simp only [List.getElem?_cons_zero, Option.some.injEq] at hi
        subst hi
        have hls : (sortE l).length = l.length := by rw [← e2, Array.length_toList, e1]
        refine ⟨⟨.row (.st (.pair .str .str)), sortE l⟩, rfl, rfl, [.slice (some ⟨g, off, none⟩) l.length cap], rfl, .inr ⟨⟨g, off, none⟩, cap, _, t, fz, fun _ => Em, by rw [hls], rfl, h3, hh, ?_, ?_, ?_, h8, fun i => ⟨Sb.em _, fun x => x⟩, fun _ _ _ => Dj.em _, fun i hi => ?_⟩⟩
        · rw [hps]; exact h5
        · rw [hls]; exact h6
        · rw [hps]; exact h7
        · have hi' : i < d.size := by rw [e1, ← hls]; exact hi
          have hd' : d[i]! = (sortE l)[i] := by
            rw [getElem!_pos d i hi']
            have : d.toList[i]? = (sortE l)[i]? := by rw [e2]
            rw [List.getElem?_eq_getElem (by simpa using hi'), List.getElem?_eq_getElem hi] at this
            simpa using this
          refine ⟨[.string (sortE l)[i].1, .string (sortE l)[i].2], rfl, ?_, pair_rel _ _ _ _⟩
          intro j v hv
          have hj : j < 2 := (List.getElem?_eq_some_iff.1 hv).1
          show (sortWorldK encS 2 w g off m d os).cell? ⟨g, off + i * 2 + j, none⟩ = some v
          have hlt : off + i * 2 + j < c.size := by omega
          rw [hcell, putCells, Array.getElem?_mapIdx, Array.getElem?_eq_getElem hlt, Option.map_some, if_pos ⟨by omega, by rw [size_flatK]; omega⟩]
          rw [show off + i * 2 + j - off = i * 2 + j by omega, flat_get d i j hi' hj, hd', ← hv]
          match j, hj with
          | 0, _ => rfl
          | 1, _ => rfl
end Go.Proofs.Ytabindnaedchgaa.Rf
end

section
/- Functions of the program, told plainly, and their contracts: part A2. -/
namespace Go.Proofs.Ytabindnaedchgaa.Rf
open Go Go.RowKit
set_option linter.unusedVariables false
noncomputable def slices_Index_string_string.C (k : Nat) : CEs := []
abbrev slices_Index_string_string.ps : List Par := [⟨(.row .str), .rd⟩, ⟨.str, .rd⟩]
abbrev slices_Index_string_string.rs : List Res := [⟨(.int .i64), .ro, false⟩]
def slices_Index_string_string.H : Heads := [(2, [(0, .ro), (1, .ro), (7, .ro), (8, .ro)])]
noncomputable def slices_Index_string_string.F : Nat → ProdT (slices_Index_string_string.ps.map (·.τ)) → Option (ProdT (outs slices_Index_string_string.ps slices_Index_string_string.rs)) := evFn E slices_Index_string_string.C slices_Index_string_string.H Try.f78 slices_Index_string_string.ps slices_Index_string_string.rs
noncomputable def slices_Index_string_string.L2 (k k1 : Nat) (x0 : List ByteArray) (x1 : ByteArray) (x7 : Int) (x8 : Int) : Option (Int) := atL E slices_Index_string_string.C slices_Index_string_string.H Try.f78 slices_Index_string_string.ps slices_Index_string_string.rs [true, false, true, true] k [] k1 (sh 19 [(0, .d (.row .str) x0 .ro), (1, .d .str x1 .ro), (7, .d (.int .i64) x7 .ro), (8, .d (.int .i64) x8 .ro)])
noncomputable def slices_Index_string_string.f (k : Nat) (x0 : List ByteArray) (x1 : ByteArray) : Option (Int) := slices_Index_string_string.F k (x0, x1)
theorem slices_Index_string_string.f_eq (k : Nat) (x0 : List ByteArray) (x1 : ByteArray) : slices_Index_string_string.f k x0 x1 = slices_Index_string_string.L2 k k x0 x1 (x0.length : Int) (0 : Int) := by kernel_rfl
theorem slices_Index_string_string.L2_eq (k k1 : Nat) (x0 : List ByteArray) (x1 : ByteArray) (x7 : Int) (x8 : Int) : slices_Index_string_string.L2 k (k1 + 1) x0 x1 x7 x8 = ifb (decide (x8 < x7)) (ifb (decide (0 ≤ x8) && decide (x8 < (x0.length : Int))) (ifb (x1.toList == (x0.getD x8.toNat bz).toList) (some x8) (slices_Index_string_string.L2 k k1 x0 x1 x7 (w64 (x8 + 1)))) (none)) (some (-1 : Int)) := by kernel_rfl
theorem slices_Index_string_string.ok (k : Nat) : CsOk Try.prog Jp (slices_Index_string_string.C k) := .nil
theorem slices_Index_string_string.can : Can Try.prog 78 := can_of (fn := Try.f78) (by kernel_rfl) (by kernel_rfl) (by kernel_rfl)
theorem slices_Index_string_string.snd (k : Nat) : Snd Try.prog Jp 78 ⟨slices_Index_string_string.ps, slices_Index_string_string.rs, slices_Index_string_string.F k⟩ := snd_of E_ok slices_Index_string_string.ok mixed (fn := Try.f78) (by kernel_rfl) (by kernel_rfl) (by kernel_rfl) k
noncomputable def slices_Contains_string_string.C (k : Nat) : CEs := [(78, ⟨slices_Index_string_string.ps, slices_Index_string_string.rs, slices_Index_string_string.F k⟩)]
abbrev slices_Contains_string_string.ps : List Par := [⟨(.row .str), .rd⟩, ⟨.str, .rd⟩]
abbrev slices_Contains_string_string.rs : List Res := [⟨.bool, .ro, false⟩]
def slices_Contains_string_string.H : Heads := []
noncomputable def slices_Contains_string_string.F : Nat → ProdT (slices_Contains_string_string.ps.map (·.τ)) → Option (ProdT (outs slices_Contains_string_string.ps slices_Contains_string_string.rs)) := evFn E slices_Contains_string_string.C slices_Contains_string_string.H Try.f36 slices_Contains_string_string.ps slices_Contains_string_string.rs
noncomputable def slices_Contains_string_string.f (k : Nat) (x0 : List ByteArray) (x1 : ByteArray) : Option (Bool) := slices_Contains_string_string.F k (x0, x1)
theorem slices_Contains_string_string.f_eq (k : Nat) (x0 : List ByteArray) (x1 : ByteArray) : slices_Contains_string_string.f k x0 x1 = (slices_Index_string_string.f k x0 x1).bind fun (r0 : Int) => some (decide (r0 ≥ (0 : Int))) := by kernel_rfl
theorem slices_Contains_string_string.ok (k : Nat) : CsOk Try.prog Jp (slices_Contains_string_string.C k) := .cons (slices_Index_string_string.snd k) slices_Index_string_string.can <| .nil
theorem slices_Contains_string_string.can : Can Try.prog 36 := can_of (fn := Try.f36) (by kernel_rfl) (by kernel_rfl) (by kernel_rfl)
theorem slices_Contains_string_string.snd (k : Nat) : Snd Try.prog Jp 36 ⟨slices_Contains_string_string.ps, slices_Contains_string_string.rs, slices_Contains_string_string.F k⟩ := snd_of E_ok slices_Contains_string_string.ok mixed (fn := Try.f36) (by kernel_rfl) (by kernel_rfl) (by kernel_rfl) k
noncomputable def impl_DeltaDo.C (k : Nat) : CEs := [(34, ⟨impl_entryAt.ps, impl_entryAt.rs, impl_entryAt.F k⟩), (37, ⟨impl_sortEntries.ps, impl_sortEntries.rs, impl_sortEntries.F k⟩), (14, ⟨impl_BookOk.ps, impl_BookOk.rs, impl_BookOk.F k⟩), (10, ⟨impl_DeltaOk.ps, impl_DeltaOk.rs, impl_DeltaOk.F k⟩), (35, ⟨impl_cloneBook.ps, impl_cloneBook.rs, impl_cloneBook.F k⟩), (36, ⟨slices_Contains_string_string.ps, slices_Contains_string_string.rs, slices_Contains_string_string.F k⟩)]
abbrev impl_DeltaDo.ps : List Par := [⟨t25, .rd⟩, ⟨t28, .rd⟩]
abbrev impl_DeltaDo.rs : List Res := [⟨t25, (.pr (.own .ro) (.own .ro)), false⟩, ⟨.bool, .ro, false⟩]
def impl_DeltaDo.H : Heads := [(5, [(2, .ro), (3, .ro), (4, (.pr (.own .ro) (.own .ro))), (6, (.pr (.own .ro) (.own .ro))), (27, .ro), (28, .ro), (29, .ro)]), (11, [(2, .ro), (3, .ro), (4, (.pr (.own .ro) (.own .ro))), (6, (.pr (.own .ro) (.own .ro))), (42, .ro), (43, .ro), (44, .ro)]), (20, [(2, .ro), (4, (.pr (.own .ro) (.own .ro))), (6, (.pr (.own .ro) (.own .ro)))])]
noncomputable def impl_DeltaDo.F : Nat → ProdT (impl_DeltaDo.ps.map (·.τ)) → Option (ProdT (outs impl_DeltaDo.ps impl_DeltaDo.rs)) := evFn E impl_DeltaDo.C impl_DeltaDo.H Try.f7 impl_DeltaDo.ps impl_DeltaDo.rs
noncomputable def impl_DeltaDo.L5 (k k1 : Nat) (x2 : Book) (x3 : Delta) (x4 : Book) (x6 : Book) (x27 : List ByteArray) (x28 : Int) (x29 : Int) : Option (Book × Bool) := atL E impl_DeltaDo.C impl_DeltaDo.H Try.f7 impl_DeltaDo.ps impl_DeltaDo.rs [true, true, true, false, true, true] k [] k1 (sh 91 [(2, .box t25 x2 .ro none), (3, .box t28 x3 .ro none), (4, .box t25 x4 (.pr (.own .ro) (.own .ro)) none), (6, .box t25 x6 (.pr (.own .ro) (.own .ro)) none), (27, .d (.row .str) x27 .ro), (28, .d (.int .i64) x28 .ro), (29, .d (.int .i64) x29 .ro)])
noncomputable def impl_DeltaDo.L11 (k k1 : Nat) (x2 : Book) (x3 : Delta) (x4 : Book) (x6 : Book) (x42 : List En) (x43 : Int) (x44 : Int) : Option (Book × Bool) := atL E impl_DeltaDo.C impl_DeltaDo.H Try.f7 impl_DeltaDo.ps impl_DeltaDo.rs [true, true, true, true, false, true, true] k [] k1 (sh 91 [(2, .box t25 x2 .ro none), (3, .box t28 x3 .ro none), (4, .box t25 x4 (.pr (.own .ro) (.own .ro)) none), (6, .box t25 x6 (.pr (.own .ro) (.own .ro)) none), (42, .d t24 x42 .ro), (43, .d (.int .i64) x43 .ro), (44, .d (.int .i64) x44 .ro)])
noncomputable def impl_DeltaDo.J20 (k : Nat) (x2 : Book) (x4 : Book) (x6 : Book) : Option (Book × Bool) := atJ E impl_DeltaDo.C impl_DeltaDo.H Try.f7 impl_DeltaDo.ps impl_DeltaDo.rs [true, true, true, true, true, true, true, true] 0 [] k (sh 91 [(2, .box t25 x2 .ro none), (4, .box t25 x4 (.pr (.own .ro) (.own .ro)) none), (6, .box t25 x6 (.pr (.own .ro) (.own .ro)) none)])
noncomputable def impl_DeltaDo.f (k : Nat) (x0 : Book) (x1 : Delta) : Option (Book × Bool) := impl_DeltaDo.F k (x0, x1)
theorem impl_DeltaDo.f_eq (k : Nat) (x0 : Book) (x1 : Delta) : impl_DeltaDo.f k x0 x1 = (impl_BookOk.f k x0).bind fun (r0 : Bool) => ifb (!r0) (some ((([] : List Aff), ([] : List En)), false)) ((impl_DeltaOk.f k x1).bind fun (r1 : Bool) => ifb (!r1) (some ((([] : List Aff), ([] : List En)), false)) (ifb (decide ((([] : List Aff).length + x0.1.length) * 72 ≤ rowMax)) (impl_DeltaDo.L5 k k x0 x1 (([] : List Aff), ([] : List En)) ((([] : List Aff) ++ x0.1), ([] : List En)) x1.1 (x1.1.length : Int) (0 : Int)) (none))) := by kernel_rfl
theorem impl_DeltaDo.L5_eq (k k1 : Nat) (x2 : Book) (x3 : Delta) (x4 : Book) (x6 : Book) (x27 : List ByteArray) (x28 : Int) (x29 : Int) : impl_DeltaDo.L5 k (k1 + 1) x2 x3 x4 x6 x27 x28 x29 = ifb (decide (x29 < x28)) (ifb (decide (0 ≤ x29) && decide (x29 < (x27.length : Int))) ((impl_entryAt.f k1 x2.2 (x27.getD x29.toNat bz)).bind fun (r2 : Int) => ifb (decide (r2 < 0)) ((impl_cloneBook.f k1 x2).bind fun (r3 : Book) => some (r3, false)) (impl_DeltaDo.L5 k k1 x2 x3 x4 x6 x27 x28 (w64 (x29 + 1)))) (none)) (impl_DeltaDo.L11 k k x2 x3 x4 x6 x2.2 (x2.2.length : Int) (0 : Int)) := by kernel_rfl
theorem impl_DeltaDo.L11_eq (k k1 : Nat) (x2 : Book) (x3 : Delta) (x4 : Book) (x6 : Book) (x42 : List En) (x43 : Int) (x44 : Int) : impl_DeltaDo.L11 k (k1 + 1) x2 x3 x4 x6 x42 x43 x44 = ifb (decide (x44 < x43)) (ifb (decide (0 ≤ x44) && decide (x44 < (x42.length : Int))) ((slices_Contains_string_string.f k1 x3.1 ((x42.getD x44.toNat zE).1)).bind fun (r4 : Bool) => ifb (!r4) ((impl_entryAt.f k1 x3.2.1 ((x42.getD x44.toNat zE).1)).bind fun (r5 : Int) => ifb (decide (r5 < 0)) (ifb (decide ((x6.2.length + [(x42.getD x44.toNat zE)].length) * 32 ≤ rowMax)) (impl_DeltaDo.L11 k k1 x2 x3 x4 (x6.1, (x6.2 ++ [(x42.getD x44.toNat zE)])) x42 x43 (w64 (x44 + 1))) (none)) (impl_DeltaDo.L11 k k1 x2 x3 x4 x6 x42 x43 (w64 (x44 + 1)))) (impl_DeltaDo.L11 k k1 x2 x3 x4 x6 x42 x43 (w64 (x44 + 1)))) (none)) (ifb (decide ((x6.2.length + x3.2.1.length) * 32 ≤ rowMax)) ((impl_sortEntries.f k (x6.2 ++ x3.2.1)).bind fun (r6 : List En) => ifb x3.2.2.1 (ifb (decide ((([] : List Aff).length + x3.2.2.2.length) * 72 ≤ rowMax)) (impl_DeltaDo.J20 k x2 x4 ((([] : List Aff) ++ x3.2.2.2), r6)) (none)) (impl_DeltaDo.J20 k x2 x4 (x6.1, r6))) (none)) := by kernel_rfl
theorem impl_DeltaDo.J20_eq (k : Nat) (x2 : Book) (x4 : Book) (x6 : Book) : impl_DeltaDo.J20 (k + 1) x2 x4 x6 = (impl_BookOk.f k x6).bind fun (r7 : Bool) => ifb (!r7) ((impl_cloneBook.f k x2).bind fun (r8 : Book) => some (r8, false)) (some (x6, true)) := by kernel_rfl
theorem impl_DeltaDo.ok (k : Nat) : CsOk Try.prog Jp (impl_DeltaDo.C k) := .cons (impl_entryAt.snd k) impl_entryAt.can <| .cons (impl_sortEntries.snd k) impl_sortEntries.can <| .cons (impl_BookOk.snd k) impl_BookOk.can <| .cons (impl_DeltaOk.snd k) impl_DeltaOk.can <| .cons (impl_cloneBook.snd k) impl_cloneBook.can <| .cons (slices_Contains_string_string.snd k) slices_Contains_string_string.can <| .nil
theorem impl_DeltaDo.can : Can Try.prog 7 := can_of (fn := Try.f7) (by kernel_rfl) (by kernel_rfl) (by kernel_rfl)
theorem impl_DeltaDo.snd (k : Nat) : Snd Try.prog Jp 7 ⟨impl_DeltaDo.ps, impl_DeltaDo.rs, impl_DeltaDo.F k⟩ := snd_of E_ok impl_DeltaDo.ok mixed (fn := Try.f7) (by kernel_rfl) (by kernel_rfl) (by kernel_rfl) k
noncomputable def laws_eqAffix.C (k : Nat) : CEs := []
abbrev laws_eqAffix.ps : List Par := [⟨t71, .rd⟩, ⟨t71, .rd⟩]
abbrev laws_eqAffix.rs : List Res := [⟨.bool, .ro, false⟩]
def laws_eqAffix.H : Heads := []
noncomputable def laws_eqAffix.F : Nat → ProdT (laws_eqAffix.ps.map (·.τ)) → Option (ProdT (outs laws_eqAffix.ps laws_eqAffix.rs)) := evFn E laws_eqAffix.C laws_eqAffix.H Try.f94 laws_eqAffix.ps laws_eqAffix.rs
noncomputable def laws_eqAffix.f (k : Nat) (x0 : Aff) (x1 : Aff) : Option (Bool) := laws_eqAffix.F k (x0, x1)
theorem laws_eqAffix.f_eq (k : Nat) (x0 : Aff) (x1 : Aff) : laws_eqAffix.f k x0 x1 = ifb (!(x0.1.toList == x1.1.toList)) (some false) (ifb (!(x0.2.1 == x1.2.1)) (some false) (ifb (!(x0.2.2.1.toList == x1.2.2.1.toList)) (some false) (ifb (!(x0.2.2.2.1.toList == x1.2.2.2.1.toList)) (some false) (ifb (!(x0.2.2.2.2.toList == x1.2.2.2.2.toList)) (some false) (some true))))) := by kernel_rfl
theorem laws_eqAffix.ok (k : Nat) : CsOk Try.prog Jp (laws_eqAffix.C k) := .nil
theorem laws_eqAffix.can : Can Try.prog 94 := can_of (fn := Try.f94) (by kernel_rfl) (by kernel_rfl) (by kernel_rfl)
theorem laws_eqAffix.snd (k : Nat) : Snd Try.prog Jp 94 ⟨laws_eqAffix.ps, laws_eqAffix.rs, laws_eqAffix.F k⟩ := snd_of E_ok laws_eqAffix.ok mixed (fn := Try.f94) (by kernel_rfl) (by kernel_rfl) (by kernel_rfl) k
noncomputable def laws_eqAffixS.C (k : Nat) : CEs := [(94, ⟨laws_eqAffix.ps, laws_eqAffix.rs, laws_eqAffix.F k⟩)]
abbrev laws_eqAffixS.ps : List Par := [⟨t23, .rd⟩, ⟨t23, .rd⟩]
abbrev laws_eqAffixS.rs : List Res := [⟨.bool, .ro, false⟩]
def laws_eqAffixS.H : Heads := [(4, [(0, .ro), (1, .ro), (5, .ro)])]
noncomputable def laws_eqAffixS.F : Nat → ProdT (laws_eqAffixS.ps.map (·.τ)) → Option (ProdT (outs laws_eqAffixS.ps laws_eqAffixS.rs)) := evFn E laws_eqAffixS.C laws_eqAffixS.H Try.f54 laws_eqAffixS.ps laws_eqAffixS.rs
noncomputable def laws_eqAffixS.L4 (k k1 : Nat) (x0 : List Aff) (x1 : List Aff) (x5 : Int) : Option (Bool) := atL E laws_eqAffixS.C laws_eqAffixS.H Try.f54 laws_eqAffixS.ps laws_eqAffixS.rs [true, true, false, true, true] k [] k1 (sh 27 [(0, .d t23 x0 .ro), (1, .d t23 x1 .ro), (5, .d (.int .i64) x5 .ro)])
noncomputable def laws_eqAffixS.f (k : Nat) (x0 : List Aff) (x1 : List Aff) : Option (Bool) := laws_eqAffixS.F k (x0, x1)
theorem laws_eqAffixS.f_eq (k : Nat) (x0 : List Aff) (x1 : List Aff) : laws_eqAffixS.f k x0 x1 = ifb ((x0.length : Int) != (x1.length : Int)) (some false) (laws_eqAffixS.L4 k k x0 x1 (0 : Int)) := by kernel_rfl
theorem laws_eqAffixS.L4_eq (k k1 : Nat) (x0 : List Aff) (x1 : List Aff) (x5 : Int) : laws_eqAffixS.L4 k (k1 + 1) x0 x1 x5 = ifb (decide (x5 < (x0.length : Int))) (ifb (decide (0 ≤ x5) && decide (x5 < (x0.length : Int))) (ifb (decide (0 ≤ x5) && decide (x5 < (x1.length : Int))) ((laws_eqAffix.f k1 (x0.getD x5.toNat zA) (x1.getD x5.toNat zA)).bind fun (r0 : Bool) => ifb (!r0) (some false) (laws_eqAffixS.L4 k k1 x0 x1 (w64 (x5 + 1)))) (none)) (none)) (some true) := by kernel_rfl
theorem laws_eqAffixS.ok (k : Nat) : CsOk Try.prog Jp (laws_eqAffixS.C k) := .cons (laws_eqAffix.snd k) laws_eqAffix.can <| .nil
theorem laws_eqAffixS.can : Can Try.prog 54 := can_of (fn := Try.f54) (by kernel_rfl) (by kernel_rfl) (by kernel_rfl)
theorem laws_eqAffixS.snd (k : Nat) : Snd Try.prog Jp 54 ⟨laws_eqAffixS.ps, laws_eqAffixS.rs, laws_eqAffixS.F k⟩ := snd_of E_ok laws_eqAffixS.ok mixed (fn := Try.f54) (by kernel_rfl) (by kernel_rfl) (by kernel_rfl) k
noncomputable def laws_eqEntry.C (k : Nat) : CEs := []
abbrev laws_eqEntry.ps : List Par := [⟨t37, .rd⟩, ⟨t37, .rd⟩]
abbrev laws_eqEntry.rs : List Res := [⟨.bool, .ro, false⟩]
def laws_eqEntry.H : Heads := []
noncomputable def laws_eqEntry.F : Nat → ProdT (laws_eqEntry.ps.map (·.τ)) → Option (ProdT (outs laws_eqEntry.ps laws_eqEntry.rs)) := evFn E laws_eqEntry.C laws_eqEntry.H Try.f95 laws_eqEntry.ps laws_eqEntry.rs
noncomputable def laws_eqEntry.f (k : Nat) (x0 : ByteArray × ByteArray) (x1 : ByteArray × ByteArray) : Option (Bool) := laws_eqEntry.F k (x0, x1)
theorem laws_eqEntry.f_eq (k : Nat) (x0 : ByteArray × ByteArray) (x1 : ByteArray × ByteArray) : laws_eqEntry.f k x0 x1 = ifb (!(x0.1.toList == x1.1.toList)) (some false) (ifb (!(x0.2.toList == x1.2.toList)) (some false) (some true)) := by kernel_rfl
theorem laws_eqEntry.ok (k : Nat) : CsOk Try.prog Jp (laws_eqEntry.C k) := .nil
theorem laws_eqEntry.can : Can Try.prog 95 := can_of (fn := Try.f95) (by kernel_rfl) (by kernel_rfl) (by kernel_rfl)
theorem laws_eqEntry.snd (k : Nat) : Snd Try.prog Jp 95 ⟨laws_eqEntry.ps, laws_eqEntry.rs, laws_eqEntry.F k⟩ := snd_of E_ok laws_eqEntry.ok mixed (fn := Try.f95) (by kernel_rfl) (by kernel_rfl) (by kernel_rfl) k
noncomputable def laws_eqEntryS.C (k : Nat) : CEs := [(95, ⟨laws_eqEntry.ps, laws_eqEntry.rs, laws_eqEntry.F k⟩)]
abbrev laws_eqEntryS.ps : List Par := [⟨t24, .rd⟩, ⟨t24, .rd⟩]
abbrev laws_eqEntryS.rs : List Res := [⟨.bool, .ro, false⟩]
def laws_eqEntryS.H : Heads := [(4, [(0, .ro), (1, .ro), (5, .ro)])]
noncomputable def laws_eqEntryS.F : Nat → ProdT (laws_eqEntryS.ps.map (·.τ)) → Option (ProdT (outs laws_eqEntryS.ps laws_eqEntryS.rs)) := evFn E laws_eqEntryS.C laws_eqEntryS.H Try.f55 laws_eqEntryS.ps laws_eqEntryS.rs
noncomputable def laws_eqEntryS.L4 (k k1 : Nat) (x0 : List En) (x1 : List En) (x5 : Int) : Option (Bool) := atL E laws_eqEntryS.C laws_eqEntryS.H Try.f55 laws_eqEntryS.ps laws_eqEntryS.rs [true, true, false, true, true] k [] k1 (sh 27 [(0, .d t24 x0 .ro), (1, .d t24 x1 .ro), (5, .d (.int .i64) x5 .ro)])
noncomputable def laws_eqEntryS.f (k : Nat) (x0 : List En) (x1 : List En) : Option (Bool) := laws_eqEntryS.F k (x0, x1)
theorem laws_eqEntryS.f_eq (k : Nat) (x0 : List En) (x1 : List En) : laws_eqEntryS.f k x0 x1 = ifb ((x0.length : Int) != (x1.length : Int)) (some false) (laws_eqEntryS.L4 k k x0 x1 (0 : Int)) := by kernel_rfl
theorem laws_eqEntryS.L4_eq (k k1 : Nat) (x0 : List En) (x1 : List En) (x5 : Int) : laws_eqEntryS.L4 k (k1 + 1) x0 x1 x5 = ifb (decide (x5 < (x0.length : Int))) (ifb (decide (0 ≤ x5) && decide (x5 < (x0.length : Int))) (ifb (decide (0 ≤ x5) && decide (x5 < (x1.length : Int))) ((laws_eqEntry.f k1 (x0.getD x5.toNat zE) (x1.getD x5.toNat zE)).bind fun (r0 : Bool) => ifb (!r0) (some false) (laws_eqEntryS.L4 k k1 x0 x1 (w64 (x5 + 1)))) (none)) (none)) (some true) := by kernel_rfl
theorem laws_eqEntryS.ok (k : Nat) : CsOk Try.prog Jp (laws_eqEntryS.C k) := .cons (laws_eqEntry.snd k) laws_eqEntry.can <| .nil
theorem laws_eqEntryS.can : Can Try.prog 55 := can_of (fn := Try.f55) (by kernel_rfl) (by kernel_rfl) (by kernel_rfl)
theorem laws_eqEntryS.snd (k : Nat) : Snd Try.prog Jp 55 ⟨laws_eqEntryS.ps, laws_eqEntryS.rs, laws_eqEntryS.F k⟩ := snd_of E_ok laws_eqEntryS.ok mixed (fn := Try.f55) (by kernel_rfl) (by kernel_rfl) (by kernel_rfl) k
noncomputable def laws_eqBook.C (k : Nat) : CEs := [(54, ⟨laws_eqAffixS.ps, laws_eqAffixS.rs, laws_eqAffixS.F k⟩), (55, ⟨laws_eqEntryS.ps, laws_eqEntryS.rs, laws_eqEntryS.F k⟩)]
abbrev laws_eqBook.ps : List Par := [⟨t25, .rd⟩, ⟨t25, .rd⟩]
abbrev laws_eqBook.rs : List Res := [⟨.bool, .ro, false⟩]
def laws_eqBook.H : Heads := []
noncomputable def laws_eqBook.F : Nat → ProdT (laws_eqBook.ps.map (·.τ)) → Option (ProdT (outs laws_eqBook.ps laws_eqBook.rs)) := evFn E laws_eqBook.C laws_eqBook.H Try.f19 laws_eqBook.ps laws_eqBook.rs
noncomputable def laws_eqBook.f (k : Nat) (x0 : Book) (x1 : Book) : Option (Bool) := laws_eqBook.F k (x0, x1)
theorem laws_eqBook.f_eq (k : Nat) (x0 : Book) (x1 : Book) : laws_eqBook.f k x0 x1 = (laws_eqAffixS.f k x0.1 x1.1).bind fun (r0 : Bool) => ifb (!r0) (some false) ((laws_eqEntryS.f k x0.2 x1.2).bind fun (r1 : Bool) => ifb (!r1) (some false) (some true)) := by kernel_rfl
theorem laws_eqBook.ok (k : Nat) : CsOk Try.prog Jp (laws_eqBook.C k) := .cons (laws_eqAffixS.snd k) laws_eqAffixS.can <| .cons (laws_eqEntryS.snd k) laws_eqEntryS.can <| .nil
theorem laws_eqBook.can : Can Try.prog 19 := can_of (fn := Try.f19) (by kernel_rfl) (by kernel_rfl) (by kernel_rfl)
theorem laws_eqBook.snd (k : Nat) : Snd Try.prog Jp 19 ⟨laws_eqBook.ps, laws_eqBook.rs, laws_eqBook.F k⟩ := snd_of E_ok laws_eqBook.ok mixed (fn := Try.f19) (by kernel_rfl) (by kernel_rfl) (by kernel_rfl) k
noncomputable def laws_eqStringS.C (k : Nat) : CEs := []
abbrev laws_eqStringS.ps : List Par := [⟨(.row .str), .rd⟩, ⟨(.row .str), .rd⟩]
abbrev laws_eqStringS.rs : List Res := [⟨.bool, .ro, false⟩]
def laws_eqStringS.H : Heads := [(4, [(0, .ro), (1, .ro), (5, .ro)])]
noncomputable def laws_eqStringS.F : Nat → ProdT (laws_eqStringS.ps.map (·.τ)) → Option (ProdT (outs laws_eqStringS.ps laws_eqStringS.rs)) := evFn E laws_eqStringS.C laws_eqStringS.H Try.f56 laws_eqStringS.ps laws_eqStringS.rs
noncomputable def laws_eqStringS.L4 (k k1 : Nat) (x0 : List ByteArray) (x1 : List ByteArray) (x5 : Int) : Option (Bool) := atL E laws_eqStringS.C laws_eqStringS.H Try.f56 laws_eqStringS.ps laws_eqStringS.rs [true, true, false, true, true] k [] k1 (sh 26 [(0, .d (.row .str) x0 .ro), (1, .d (.row .str) x1 .ro), (5, .d (.int .i64) x5 .ro)])
noncomputable def laws_eqStringS.f (k : Nat) (x0 : List ByteArray) (x1 : List ByteArray) : Option (Bool) := laws_eqStringS.F k (x0, x1)
theorem laws_eqStringS.f_eq (k : Nat) (x0 : List ByteArray) (x1 : List ByteArray) : laws_eqStringS.f k x0 x1 = ifb ((x0.length : Int) != (x1.length : Int)) (some false) (laws_eqStringS.L4 k k x0 x1 (0 : Int)) := by kernel_rfl
theorem laws_eqStringS.L4_eq (k k1 : Nat) (x0 : List ByteArray) (x1 : List ByteArray) (x5 : Int) : laws_eqStringS.L4 k (k1 + 1) x0 x1 x5 = ifb (decide (x5 < (x0.length : Int))) (ifb (decide (0 ≤ x5) && decide (x5 < (x0.length : Int))) (ifb (decide (0 ≤ x5) && decide (x5 < (x1.length : Int))) (ifb (!((x0.getD x5.toNat bz).toList == (x1.getD x5.toNat bz).toList)) (some false) (laws_eqStringS.L4 k k1 x0 x1 (w64 (x5 + 1)))) (none)) (none)) (some true) := by kernel_rfl
theorem laws_eqStringS.ok (k : Nat) : CsOk Try.prog Jp (laws_eqStringS.C k) := .nil
theorem laws_eqStringS.can : Can Try.prog 56 := can_of (fn := Try.f56) (by kernel_rfl) (by kernel_rfl) (by kernel_rfl)
theorem laws_eqStringS.snd (k : Nat) : Snd Try.prog Jp 56 ⟨laws_eqStringS.ps, laws_eqStringS.rs, laws_eqStringS.F k⟩ := snd_of E_ok laws_eqStringS.ok mixed (fn := Try.f56) (by kernel_rfl) (by kernel_rfl) (by kernel_rfl) k
noncomputable def laws_eqDelta.C (k : Nat) : CEs := [(54, ⟨laws_eqAffixS.ps, laws_eqAffixS.rs, laws_eqAffixS.F k⟩), (55, ⟨laws_eqEntryS.ps, laws_eqEntryS.rs, laws_eqEntryS.F k⟩), (56, ⟨laws_eqStringS.ps, laws_eqStringS.rs, laws_eqStringS.F k⟩)]
abbrev laws_eqDelta.ps : List Par := [⟨t28, .rd⟩, ⟨t28, .rd⟩]
abbrev laws_eqDelta.rs : List Res := [⟨.bool, .ro, false⟩]
def laws_eqDelta.H : Heads := []
noncomputable def laws_eqDelta.F : Nat → ProdT (laws_eqDelta.ps.map (·.τ)) → Option (ProdT (outs laws_eqDelta.ps laws_eqDelta.rs)) := evFn E laws_eqDelta.C laws_eqDelta.H Try.f20 laws_eqDelta.ps laws_eqDelta.rs
noncomputable def laws_eqDelta.f (k : Nat) (x0 : Delta) (x1 : Delta) : Option (Bool) := laws_eqDelta.F k (x0, x1)
theorem laws_eqDelta.f_eq (k : Nat) (x0 : Delta) (x1 : Delta) : laws_eqDelta.f k x0 x1 = (laws_eqStringS.f k x0.1 x1.1).bind fun (r0 : Bool) => ifb (!r0) (some false) ((laws_eqEntryS.f k x0.2.1 x1.2.1).bind fun (r1 : Bool) => ifb (!r1) (some false) (ifb (!(x0.2.2.1 == x1.2.2.1)) (some false) ((laws_eqAffixS.f k x0.2.2.2 x1.2.2.2).bind fun (r2 : Bool) => ifb (!r2) (some false) (some true)))) := by kernel_rfl
theorem laws_eqDelta.ok (k : Nat) : CsOk Try.prog Jp (laws_eqDelta.C k) := .cons (laws_eqAffixS.snd k) laws_eqAffixS.can <| .cons (laws_eqEntryS.snd k) laws_eqEntryS.can <| .cons (laws_eqStringS.snd k) laws_eqStringS.can <| .nil
theorem laws_eqDelta.can : Can Try.prog 20 := can_of (fn := Try.f20) (by kernel_rfl) (by kernel_rfl) (by kernel_rfl)
theorem laws_eqDelta.snd (k : Nat) : Snd Try.prog Jp 20 ⟨laws_eqDelta.ps, laws_eqDelta.rs, laws_eqDelta.F k⟩ := snd_of E_ok laws_eqDelta.ok mixed (fn := Try.f20) (by kernel_rfl) (by kernel_rfl) (by kernel_rfl) k
noncomputable def laws_markText.C (k : Nat) : CEs := []
abbrev laws_markText.ps : List Par := [⟨(.int .i64), .rd⟩]
abbrev laws_markText.rs : List Res := [⟨.str, .ro, false⟩]
def laws_markText.H : Heads := [(4, [(0, .ro), (3, .ro)])]
noncomputable def laws_markText.F : Nat → ProdT (laws_markText.ps.map (·.τ)) → Option (ProdT (outs laws_markText.ps laws_markText.rs)) := evFn E laws_markText.C laws_markText.H Try.f96 laws_markText.ps laws_markText.rs
noncomputable def laws_markText.L4 (k k1 : Nat) (x0 : Int) (x3 : ByteArray) : Option (ByteArray) := atL E laws_markText.C laws_markText.H Try.f96 laws_markText.ps laws_markText.rs [true, true, true, false, true] k [] k1 (sh 20 [(0, .d (.int .i64) x0 .ro), (3, .d .str x3 .ro)])
noncomputable def laws_markText.f (k : Nat) (x0 : Int) : Option (ByteArray) := laws_markText.F k x0
theorem laws_markText.f_eq (k : Nat) (x0 : Int) : laws_markText.f k x0 = ifb (decide (x0 ≤ (0 : Int))) (some (⟨#[109, 48]⟩ : ByteArray)) (laws_markText.L4 k k x0 bz) := by kernel_rfl
theorem laws_markText.L4_eq (k k1 : Nat) (x0 : Int) (x3 : ByteArray) : laws_markText.L4 k (k1 + 1) x0 x3 = ifb (decide (x0 > 0)) (ifb (decide ((10 : Int) ≠ 0)) (ifb (decide ((((strOf [(IntKind.u8.wrap (w64 ((48 : Int) + (x0.tmod (10 : Int)))))]).size + x3.size : Nat) : Int) ≤ IntKind.i64.max)) (ifb (decide ((10 : Int) ≠ 0)) (laws_markText.L4 k k1 (w64 (x0.tdiv (10 : Int))) ((strOf [(IntKind.u8.wrap (w64 ((48 : Int) + (x0.tmod (10 : Int)))))]) ++ x3)) (none)) (none)) (none)) (ifb (decide ((((⟨#[109]⟩ : ByteArray).size + x3.size : Nat) : Int) ≤ IntKind.i64.max)) (some ((⟨#[109]⟩ : ByteArray) ++ x3)) (none)) := by kernel_rfl
theorem laws_markText.ok (k : Nat) : CsOk Try.prog Jp (laws_markText.C k) := .nil
theorem laws_markText.can : Can Try.prog 96 := can_of (fn := Try.f96) (by kernel_rfl) (by kernel_rfl) (by kernel_rfl)
theorem laws_markText.snd (k : Nat) : Snd Try.prog Jp 96 ⟨laws_markText.ps, laws_markText.rs, laws_markText.F k⟩ := snd_of E_ok laws_markText.ok mixed (fn := Try.f96) (by kernel_rfl) (by kernel_rfl) (by kernel_rfl) k
noncomputable def laws_markAffixS.C (k : Nat) : CEs := [(96, ⟨laws_markText.ps, laws_markText.rs, laws_markText.F k⟩)]
abbrev laws_markAffixS.ps : List Par := [⟨t23, .io (.own .ro)⟩, ⟨(.int .i64), .rd⟩]
abbrev laws_markAffixS.rs : List Res := [⟨(.int .i64), .ro, false⟩]
def laws_markAffixS.H : Heads := [(2, [(0, (.own .ro)), (1, .ro), (5, .ro)]), (7, [(0, (.own .ro)), (1, .ro), (5, .ro)]), (11, [(0, (.own .ro)), (1, .ro), (5, .ro)])]
noncomputable def laws_markAffixS.F : Nat → ProdT (laws_markAffixS.ps.map (·.τ)) → Option (ProdT (outs laws_markAffixS.ps laws_markAffixS.rs)) := evFn E laws_markAffixS.C laws_markAffixS.H Try.f57 laws_markAffixS.ps laws_markAffixS.rs
noncomputable def laws_markAffixS.L2 (k k1 : Nat) (x0 : List Aff) (x1 : Int) (x5 : Int) : Option (Int × List Aff) := atL E laws_markAffixS.C laws_markAffixS.H Try.f57 laws_markAffixS.ps laws_markAffixS.rs [true, false, true, true] k [] k1 (sh 54 [(0, .d t23 x0 (.own .ro)), (1, .d (.int .i64) x1 .ro), (5, .d (.int .i64) x5 .ro)])
noncomputable def laws_markAffixS.J7 (k k1 k2 : Nat) (x0 : List Aff) (x1 : Int) (x5 : Int) : Option (Int × List Aff) := atJ E laws_markAffixS.C laws_markAffixS.H Try.f57 laws_markAffixS.ps laws_markAffixS.rs [true, false, true, true, true, true, false, true, true, true, true] k [k1] k2 (sh 54 [(0, .d t23 x0 (.own .ro)), (1, .d (.int .i64) x1 .ro), (5, .d (.int .i64) x5 .ro)])
noncomputable def laws_markAffixS.J11 (k k1 k2 : Nat) (x0 : List Aff) (x1 : Int) (x5 : Int) : Option (Int × List Aff) := atJ E laws_markAffixS.C laws_markAffixS.H Try.f57 laws_markAffixS.ps laws_markAffixS.rs [true, false, true, true, true, true, false, true, true, true, true, true, true, true, true] k [k1, 0] k2 (sh 54 [(0, .d t23 x0 (.own .ro)), (1, .d (.int .i64) x1 .ro), (5, .d (.int .i64) x5 .ro)])
noncomputable def laws_markAffixS.f (k : Nat) (x0 : List Aff) (x1 : Int) : Option (Int × List Aff) := laws_markAffixS.F k (x0, x1)
theorem laws_markAffixS.f_eq (k : Nat) (x0 : List Aff) (x1 : Int) : laws_markAffixS.f k x0 x1 = laws_markAffixS.L2 k k x0 x1 (0 : Int) := by kernel_rfl
theorem laws_markAffixS.L2_eq (k k1 : Nat) (x0 : List Aff) (x1 : Int) (x5 : Int) : laws_markAffixS.L2 k (k1 + 1) x0 x1 x5 = ifb (decide (x5 < (x0.length : Int))) ((laws_markText.f k1 x1).bind fun (r0 : ByteArray) => ifb (decide (0 ≤ x5) && decide (x5 < (x0.length : Int))) (ifb (decide ((3 : Int) ≠ 0)) (ifb (decide (0 ≤ x5) && decide (x5 < ((x0.set x5.toNat (r0, (x0.getD x5.toNat zA).2)).length : Int))) (laws_markAffixS.J7 k k1 k1 ((x0.set x5.toNat (r0, (x0.getD x5.toNat zA).2)).set x5.toNat (((x0.set x5.toNat (r0, (x0.getD x5.toNat zA).2)).getD x5.toNat zA).1, (((w64 (x1 + 1)).tmod (3 : Int)) == (0 : Int)), (((x0.set x5.toNat (r0, (x0.getD x5.toNat zA).2)).getD x5.toNat zA).2).2)) (w64 (x1 + 1)) x5) (none)) (none)) (none)) (some (x1, x0)) := by kernel_rfl
theorem laws_markAffixS.J7_eq (k k1 k2 : Nat) (x0 : List Aff) (x1 : Int) (x5 : Int) : laws_markAffixS.J7 k k1 (k2 + 1) x0 x1 x5 = (laws_markText.f k2 (w64 (x1 + 1))).bind fun (r1 : ByteArray) => ifb (decide (0 ≤ x5) && decide (x5 < (x0.length : Int))) ((laws_markText.f k2 (w64 ((w64 (x1 + 1)) + 1))).bind fun (r2 : ByteArray) => ifb (decide (0 ≤ x5) && decide (x5 < ((x0.set x5.toNat ((x0.getD x5.toNat zA).1, ((x0.getD x5.toNat zA).2).1, r1, (((x0.getD x5.toNat zA).2).2).2)).length : Int))) (laws_markAffixS.J11 k k1 k2 ((x0.set x5.toNat ((x0.getD x5.toNat zA).1, ((x0.getD x5.toNat zA).2).1, r1, (((x0.getD x5.toNat zA).2).2).2)).set x5.toNat (((x0.set x5.toNat ((x0.getD x5.toNat zA).1, ((x0.getD x5.toNat zA).2).1, r1, (((x0.getD x5.toNat zA).2).2).2)).getD x5.toNat zA).1, (((x0.set x5.toNat ((x0.getD x5.toNat zA).1, ((x0.getD x5.toNat zA).2).1, r1, (((x0.getD x5.toNat zA).2).2).2)).getD x5.toNat zA).2).1, ((((x0.set x5.toNat ((x0.getD x5.toNat zA).1, ((x0.getD x5.toNat zA).2).1, r1, (((x0.getD x5.toNat zA).2).2).2)).getD x5.toNat zA).2).2).1, r2, (((((x0.set x5.toNat ((x0.getD x5.toNat zA).1, ((x0.getD x5.toNat zA).2).1, r1, (((x0.getD x5.toNat zA).2).2).2)).getD x5.toNat zA).2).2).2).2)) (w64 ((w64 (x1 + 1)) + 1)) x5) (none)) (none) := by kernel_rfl
theorem laws_markAffixS.J11_eq (k k1 k2 : Nat) (x0 : List Aff) (x1 : Int) (x5 : Int) : laws_markAffixS.J11 k k1 (k2 + 1) x0 x1 x5 = (laws_markText.f k2 (w64 (x1 + 1))).bind fun (r3 : ByteArray) => ifb (decide (0 ≤ x5) && decide (x5 < (x0.length : Int))) (laws_markAffixS.L2 k k1 (x0.set x5.toNat ((x0.getD x5.toNat zA).1, ((x0.getD x5.toNat zA).2).1, (((x0.getD x5.toNat zA).2).2).1, ((((x0.getD x5.toNat zA).2).2).2).1, r3)) (w64 ((w64 (x1 + 1)) + 1)) (w64 (x5 + 1))) (none) := by kernel_rfl
theorem laws_markAffixS.ok (k : Nat) : CsOk Try.prog Jp (laws_markAffixS.C k) := .cons (laws_markText.snd k) laws_markText.can <| .nil
theorem laws_markAffixS.can : Can Try.prog 57 := can_of (fn := Try.f57) (by kernel_rfl) (by kernel_rfl) (by kernel_rfl)
theorem laws_markAffixS.snd (k : Nat) : Snd Try.prog Jp 57 ⟨laws_markAffixS.ps, laws_markAffixS.rs, laws_markAffixS.F k⟩ := snd_of E_ok laws_markAffixS.ok mixed (fn := Try.f57) (by kernel_rfl) (by kernel_rfl) (by kernel_rfl) k
noncomputable def laws_markEntryS.C (k : Nat) : CEs := [(96, ⟨laws_markText.ps, laws_markText.rs, laws_markText.F k⟩)]
abbrev laws_markEntryS.ps : List Par := [⟨t24, .io (.own .ro)⟩, ⟨(.int .i64), .rd⟩]
abbrev laws_markEntryS.rs : List Res := [⟨(.int .i64), .ro, false⟩]
def laws_markEntryS.H : Heads := [(2, [(0, (.own .ro)), (1, .ro), (5, .ro)]), (7, [(0, (.own .ro)), (1, .ro), (5, .ro)])]
noncomputable def laws_markEntryS.F : Nat → ProdT (laws_markEntryS.ps.map (·.τ)) → Option (ProdT (outs laws_markEntryS.ps laws_markEntryS.rs)) := evFn E laws_markEntryS.C laws_markEntryS.H Try.f58 laws_markEntryS.ps laws_markEntryS.rs
noncomputable def laws_markEntryS.L2 (k k1 : Nat) (x0 : List En) (x1 : Int) (x5 : Int) : Option (Int × List En) := atL E laws_markEntryS.C laws_markEntryS.H Try.f58 laws_markEntryS.ps laws_markEntryS.rs [true, false, true, true] k [] k1 (sh 29 [(0, .d t24 x0 (.own .ro)), (1, .d (.int .i64) x1 .ro), (5, .d (.int .i64) x5 .ro)])
noncomputable def laws_markEntryS.J7 (k k1 k2 : Nat) (x0 : List En) (x1 : Int) (x5 : Int) : Option (Int × List En) := atJ E laws_markEntryS.C laws_markEntryS.H Try.f58 laws_markEntryS.ps laws_markEntryS.rs [true, false, true, true, true, true, false, true, true, true, true] k [k1] k2 (sh 29 [(0, .d t24 x0 (.own .ro)), (1, .d (.int .i64) x1 .ro), (5, .d (.int .i64) x5 .ro)])
noncomputable def laws_markEntryS.f (k : Nat) (x0 : List En) (x1 : Int) : Option (Int × List En) := laws_markEntryS.F k (x0, x1)
theorem laws_markEntryS.f_eq (k : Nat) (x0 : List En) (x1 : Int) : laws_markEntryS.f k x0 x1 = laws_markEntryS.L2 k k x0 x1 (0 : Int) := by kernel_rfl
theorem laws_markEntryS.L2_eq (k k1 : Nat) (x0 : List En) (x1 : Int) (x5 : Int) : laws_markEntryS.L2 k (k1 + 1) x0 x1 x5 = ifb (decide (x5 < (x0.length : Int))) ((laws_markText.f k1 x1).bind fun (r0 : ByteArray) => ifb (decide (0 ≤ x5) && decide (x5 < (x0.length : Int))) ((laws_markText.f k1 (w64 (x1 + 1))).bind fun (r1 : ByteArray) => ifb (decide (0 ≤ x5) && decide (x5 < ((x0.set x5.toNat (r0, (x0.getD x5.toNat zE).2)).length : Int))) (laws_markEntryS.J7 k k1 k1 ((x0.set x5.toNat (r0, (x0.getD x5.toNat zE).2)).set x5.toNat (((x0.set x5.toNat (r0, (x0.getD x5.toNat zE).2)).getD x5.toNat zE).1, r1)) (w64 (x1 + 1)) x5) (none)) (none)) (some (x1, x0)) := by kernel_rfl
theorem laws_markEntryS.J7_eq (k k1 k2 : Nat) (x0 : List En) (x1 : Int) (x5 : Int) : laws_markEntryS.J7 k k1 (k2 + 1) x0 x1 x5 = laws_markEntryS.L2 k k1 x0 (w64 (x1 + 1)) (w64 (x5 + 1)) := by kernel_rfl
theorem laws_markEntryS.ok (k : Nat) : CsOk Try.prog Jp (laws_markEntryS.C k) := .cons (laws_markText.snd k) laws_markText.can <| .nil
theorem laws_markEntryS.can : Can Try.prog 58 := can_of (fn := Try.f58) (by kernel_rfl) (by kernel_rfl) (by kernel_rfl)
theorem laws_markEntryS.snd (k : Nat) : Snd Try.prog Jp 58 ⟨laws_markEntryS.ps, laws_markEntryS.rs, laws_markEntryS.F k⟩ := snd_of E_ok laws_markEntryS.ok mixed (fn := Try.f58) (by kernel_rfl) (by kernel_rfl) (by kernel_rfl) k
noncomputable def laws_markBook.C (k : Nat) : CEs := [(57, ⟨laws_markAffixS.ps, laws_markAffixS.rs, laws_markAffixS.F k⟩), (58, ⟨laws_markEntryS.ps, laws_markEntryS.rs, laws_markEntryS.F k⟩)]
abbrev laws_markBook.ps : List Par := [⟨t25, .io (.pr (.own .ro) (.own .ro))⟩, ⟨(.int .i64), .rd⟩]
abbrev laws_markBook.rs : List Res := [⟨(.int .i64), .ro, false⟩]
def laws_markBook.H : Heads := []
noncomputable def laws_markBook.F : Nat → ProdT (laws_markBook.ps.map (·.τ)) → Option (ProdT (outs laws_markBook.ps laws_markBook.rs)) := evBox E laws_markBook.C laws_markBook.H Try.f21 laws_markBook.ps laws_markBook.rs
noncomputable def laws_markBook.f (k : Nat) (x0 : Book) (x1 : Int) : Option (Int × Book) := laws_markBook.F k (x0, x1)
theorem laws_markBook.f_eq (k : Nat) (x0 : Book) (x1 : Int) : laws_markBook.f k x0 x1 = (laws_markAffixS.f k x0.1 x1).bind fun (r0 : Int × List Aff) => (laws_markEntryS.f k x0.2 r0.1).bind fun (r1 : Int × List En) => some (r1.1, (r0.2, r1.2)) := by kernel_rfl
theorem laws_markBook.ok (k : Nat) : CsOk Try.prog Jp (laws_markBook.C k) := .cons (laws_markAffixS.snd k) laws_markAffixS.can <| .cons (laws_markEntryS.snd k) laws_markEntryS.can <| .nil
theorem laws_markBook.can : Can Try.prog 21 := can_of (fn := Try.f21) (by kernel_rfl) (by kernel_rfl) (by kernel_rfl)
theorem laws_markBook.snd (k : Nat) : Snd Try.prog Jp 21 ⟨laws_markBook.ps, laws_markBook.rs, laws_markBook.F k⟩ := fnBox_ok E_ok laws_markBook.ok mixed (fn := Try.f21) (by kernel_rfl) (by kernel_rfl) k
noncomputable def laws_markStringS.C (k : Nat) : CEs := [(96, ⟨laws_markText.ps, laws_markText.rs, laws_markText.F k⟩)]
abbrev laws_markStringS.ps : List Par := [⟨(.row .str), .io (.own .ro)⟩, ⟨(.int .i64), .rd⟩]
abbrev laws_markStringS.rs : List Res := [⟨(.int .i64), .ro, false⟩]
def laws_markStringS.H : Heads := [(2, [(0, (.own .ro)), (1, .ro), (5, .ro)])]
noncomputable def laws_markStringS.F : Nat → ProdT (laws_markStringS.ps.map (·.τ)) → Option (ProdT (outs laws_markStringS.ps laws_markStringS.rs)) := evFn E laws_markStringS.C laws_markStringS.H Try.f59 laws_markStringS.ps laws_markStringS.rs
noncomputable def laws_markStringS.L2 (k k1 : Nat) (x0 : List ByteArray) (x1 : Int) (x5 : Int) : Option (Int × List ByteArray) := atL E laws_markStringS.C laws_markStringS.H Try.f59 laws_markStringS.ps laws_markStringS.rs [true, false, true, true] k [] k1 (sh 20 [(0, .d (.row .str) x0 (.own .ro)), (1, .d (.int .i64) x1 .ro), (5, .d (.int .i64) x5 .ro)])
noncomputable def laws_markStringS.f (k : Nat) (x0 : List ByteArray) (x1 : Int) : Option (Int × List ByteArray) := laws_markStringS.F k (x0, x1)
theorem laws_markStringS.f_eq (k : Nat) (x0 : List ByteArray) (x1 : Int) : laws_markStringS.f k x0 x1 = laws_markStringS.L2 k k x0 x1 (0 : Int) := by kernel_rfl
theorem laws_markStringS.L2_eq (k k1 : Nat) (x0 : List ByteArray) (x1 : Int) (x5 : Int) : laws_markStringS.L2 k (k1 + 1) x0 x1 x5 = ifb (decide (x5 < (x0.length : Int))) ((laws_markText.f k1 x1).bind fun (r0 : ByteArray) => ifb (decide (0 ≤ x5) && decide (x5 < (x0.length : Int))) (laws_markStringS.L2 k k1 (x0.set x5.toNat r0) (w64 (x1 + 1)) (w64 (x5 + 1))) (none)) (some (x1, x0)) := by kernel_rfl
theorem laws_markStringS.ok (k : Nat) : CsOk Try.prog Jp (laws_markStringS.C k) := .cons (laws_markText.snd k) laws_markText.can <| .nil
theorem laws_markStringS.can : Can Try.prog 59 := can_of (fn := Try.f59) (by kernel_rfl) (by kernel_rfl) (by kernel_rfl)
theorem laws_markStringS.snd (k : Nat) : Snd Try.prog Jp 59 ⟨laws_markStringS.ps, laws_markStringS.rs, laws_markStringS.F k⟩ := snd_of E_ok laws_markStringS.ok mixed (fn := Try.f59) (by kernel_rfl) (by kernel_rfl) (by kernel_rfl) k
noncomputable def laws_markDelta.C (k : Nat) : CEs := [(57, ⟨laws_markAffixS.ps, laws_markAffixS.rs, laws_markAffixS.F k⟩), (58, ⟨laws_markEntryS.ps, laws_markEntryS.rs, laws_markEntryS.F k⟩), (59, ⟨laws_markStringS.ps, laws_markStringS.rs, laws_markStringS.F k⟩)]
abbrev laws_markDelta.ps : List Par := [⟨t28, .io (.pr (.own .ro) (.pr (.own .ro) (.pr .ro (.own .ro))))⟩, ⟨(.int .i64), .rd⟩]
abbrev laws_markDelta.rs : List Res := [⟨(.int .i64), .ro, false⟩]
def laws_markDelta.H : Heads := []
noncomputable def laws_markDelta.F : Nat → ProdT (laws_markDelta.ps.map (·.τ)) → Option (ProdT (outs laws_markDelta.ps laws_markDelta.rs)) := evBox E laws_markDelta.C laws_markDelta.H Try.f22 laws_markDelta.ps laws_markDelta.rs
noncomputable def laws_markDelta.f (k : Nat) (x0 : Delta) (x1 : Int) : Option (Int × Delta) := laws_markDelta.F k (x0, x1)
theorem laws_markDelta.f_eq (k : Nat) (x0 : Delta) (x1 : Int) : laws_markDelta.f k x0 x1 = (laws_markStringS.f k x0.1 x1).bind fun (r0 : Int × List ByteArray) => (laws_markEntryS.f k x0.2.1 r0.1).bind fun (r1 : Int × List En) => (laws_markAffixS.f k x0.2.2.2 r1.1).bind fun (r2 : Int × List Aff) => some (r2.1, (r0.2, r1.2, x0.2.2.1, r2.2)) := by kernel_rfl
theorem laws_markDelta.ok (k : Nat) : CsOk Try.prog Jp (laws_markDelta.C k) := .cons (laws_markAffixS.snd k) laws_markAffixS.can <| .cons (laws_markEntryS.snd k) laws_markEntryS.can <| .cons (laws_markStringS.snd k) laws_markStringS.can <| .nil
theorem laws_markDelta.can : Can Try.prog 22 := can_of (fn := Try.f22) (by kernel_rfl) (by kernel_rfl) (by kernel_rfl)
theorem laws_markDelta.snd (k : Nat) : Snd Try.prog Jp 22 ⟨laws_markDelta.ps, laws_markDelta.rs, laws_markDelta.F k⟩ := fnBox_ok E_ok laws_markDelta.ok mixed (fn := Try.f22) (by kernel_rfl) (by kernel_rfl) k
noncomputable def laws_heldAffixS.C (k : Nat) : CEs := [(96, ⟨laws_markText.ps, laws_markText.rs, laws_markText.F k⟩)]
abbrev laws_heldAffixS.ps : List Par := [⟨t23, .rd⟩, ⟨(.int .i64), .rd⟩]
abbrev laws_heldAffixS.rs : List Res := [⟨(.int .i64), .ro, false⟩]
def laws_heldAffixS.H : Heads := [(2, [(0, .ro), (1, .ro), (5, .ro)])]
noncomputable def laws_heldAffixS.F : Nat → ProdT (laws_heldAffixS.ps.map (·.τ)) → Option (ProdT (outs laws_heldAffixS.ps laws_heldAffixS.rs)) := evFn E laws_heldAffixS.C laws_heldAffixS.H Try.f60 laws_heldAffixS.ps laws_heldAffixS.rs
noncomputable def laws_heldAffixS.L2 (k k1 : Nat) (x0 : List Aff) (x1 : Int) (x5 : Int) : Option (Int) := atL E laws_heldAffixS.C laws_heldAffixS.H Try.f60 laws_heldAffixS.ps laws_heldAffixS.rs [true, false, true, true] k [] k1 (sh 64 [(0, .d t23 x0 .ro), (1, .d (.int .i64) x1 .ro), (5, .d (.int .i64) x5 .ro)])
noncomputable def laws_heldAffixS.f (k : Nat) (x0 : List Aff) (x1 : Int) : Option (Int) := laws_heldAffixS.F k (x0, x1)
theorem laws_heldAffixS.f_eq (k : Nat) (x0 : List Aff) (x1 : Int) : laws_heldAffixS.f k x0 x1 = laws_heldAffixS.L2 k k x0 x1 (0 : Int) := by kernel_rfl
theorem laws_heldAffixS.L2_eq (k k1 : Nat) (x0 : List Aff) (x1 : Int) (x5 : Int) : laws_heldAffixS.L2 k (k1 + 1) x0 x1 x5 = ifb (decide (x5 < (x0.length : Int))) (ifb (decide (0 ≤ x5) && decide (x5 < (x0.length : Int))) ((laws_markText.f k1 x1).bind fun (r0 : ByteArray) => ifb (!(((x0.getD x5.toNat zA).1).toList == r0.toList)) (some (-1 : Int)) (ifb (decide (0 ≤ x5) && decide (x5 < (x0.length : Int))) (ifb (decide ((3 : Int) ≠ 0)) (ifb (!(((x0.getD x5.toNat zA).2).1 == (((w64 (x1 + 1)).tmod (3 : Int)) == (0 : Int)))) (some (-1 : Int)) (ifb (decide (0 ≤ x5) && decide (x5 < (x0.length : Int))) ((laws_markText.f k1 (w64 ((w64 (x1 + 1)) + 1))).bind fun (r1 : ByteArray) => ifb (!(((((x0.getD x5.toNat zA).2).2).1).toList == r1.toList)) (some (-1 : Int)) (ifb (decide (0 ≤ x5) && decide (x5 < (x0.length : Int))) ((laws_markText.f k1 (w64 ((w64 ((w64 (x1 + 1)) + 1)) + 1))).bind fun (r2 : ByteArray) => ifb (!((((((x0.getD x5.toNat zA).2).2).2).1).toList == r2.toList)) (some (-1 : Int)) (ifb (decide (0 ≤ x5) && decide (x5 < (x0.length : Int))) ((laws_markText.f k1 (w64 ((w64 ((w64 ((w64 (x1 + 1)) + 1)) + 1)) + 1))).bind fun (r3 : ByteArray) => ifb (!((((((x0.getD x5.toNat zA).2).2).2).2).toList == r3.toList)) (some (-1 : Int)) (laws_heldAffixS.L2 k k1 x0 (w64 ((w64 ((w64 ((w64 ((w64 (x1 + 1)) + 1)) + 1)) + 1)) + 1)) (w64 (x5 + 1)))) (none))) (none))) (none))) (none)) (none))) (none)) (some x1) := by kernel_rfl
theorem laws_heldAffixS.ok (k : Nat) : CsOk Try.prog Jp (laws_heldAffixS.C k) := .cons (laws_markText.snd k) laws_markText.can <| .nil
theorem laws_heldAffixS.can : Can Try.prog 60 := can_of (fn := Try.f60) (by kernel_rfl) (by kernel_rfl) (by kernel_rfl)
theorem laws_heldAffixS.snd (k : Nat) : Snd Try.prog Jp 60 ⟨laws_heldAffixS.ps, laws_heldAffixS.rs, laws_heldAffixS.F k⟩ := snd_of E_ok laws_heldAffixS.ok mixed (fn := Try.f60) (by kernel_rfl) (by kernel_rfl) (by kernel_rfl) k
noncomputable def laws_heldEntryS.C (k : Nat) : CEs := [(96, ⟨laws_markText.ps, laws_markText.rs, laws_markText.F k⟩)]
abbrev laws_heldEntryS.ps : List Par := [⟨t24, .rd⟩, ⟨(.int .i64), .rd⟩]
abbrev laws_heldEntryS.rs : List Res := [⟨(.int .i64), .ro, false⟩]
def laws_heldEntryS.H : Heads := [(2, [(0, .ro), (1, .ro), (5, .ro)])]
noncomputable def laws_heldEntryS.F : Nat → ProdT (laws_heldEntryS.ps.map (·.τ)) → Option (ProdT (outs laws_heldEntryS.ps laws_heldEntryS.rs)) := evFn E laws_heldEntryS.C laws_heldEntryS.H Try.f61 laws_heldEntryS.ps laws_heldEntryS.rs
noncomputable def laws_heldEntryS.L2 (k k1 : Nat) (x0 : List En) (x1 : Int) (x5 : Int) : Option (Int) := atL E laws_heldEntryS.C laws_heldEntryS.H Try.f61 laws_heldEntryS.ps laws_heldEntryS.rs [true, false, true, true] k [] k1 (sh 33 [(0, .d t24 x0 .ro), (1, .d (.int .i64) x1 .ro), (5, .d (.int .i64) x5 .ro)])
noncomputable def laws_heldEntryS.f (k : Nat) (x0 : List En) (x1 : Int) : Option (Int) := laws_heldEntryS.F k (x0, x1)
theorem laws_heldEntryS.f_eq (k : Nat) (x0 : List En) (x1 : Int) : laws_heldEntryS.f k x0 x1 = laws_heldEntryS.L2 k k x0 x1 (0 : Int) := by kernel_rfl
theorem laws_heldEntryS.L2_eq (k k1 : Nat) (x0 : List En) (x1 : Int) (x5 : Int) : laws_heldEntryS.L2 k (k1 + 1) x0 x1 x5 = ifb (decide (x5 < (x0.length : Int))) (ifb (decide (0 ≤ x5) && decide (x5 < (x0.length : Int))) ((laws_markText.f k1 x1).bind fun (r0 : ByteArray) => ifb (!(((x0.getD x5.toNat zE).1).toList == r0.toList)) (some (-1 : Int)) (ifb (decide (0 ≤ x5) && decide (x5 < (x0.length : Int))) ((laws_markText.f k1 (w64 (x1 + 1))).bind fun (r1 : ByteArray) => ifb (!(((x0.getD x5.toNat zE).2).toList == r1.toList)) (some (-1 : Int)) (laws_heldEntryS.L2 k k1 x0 (w64 ((w64 (x1 + 1)) + 1)) (w64 (x5 + 1)))) (none))) (none)) (some x1) := by kernel_rfl
theorem laws_heldEntryS.ok (k : Nat) : CsOk Try.prog Jp (laws_heldEntryS.C k) := .cons (laws_markText.snd k) laws_markText.can <| .nil
theorem laws_heldEntryS.can : Can Try.prog 61 := can_of (fn := Try.f61) (by kernel_rfl) (by kernel_rfl) (by kernel_rfl)
theorem laws_heldEntryS.snd (k : Nat) : Snd Try.prog Jp 61 ⟨laws_heldEntryS.ps, laws_heldEntryS.rs, laws_heldEntryS.F k⟩ := snd_of E_ok laws_heldEntryS.ok mixed (fn := Try.f61) (by kernel_rfl) (by kernel_rfl) (by kernel_rfl) k
noncomputable def laws_heldBook.C (k : Nat) : CEs := [(60, ⟨laws_heldAffixS.ps, laws_heldAffixS.rs, laws_heldAffixS.F k⟩), (61, ⟨laws_heldEntryS.ps, laws_heldEntryS.rs, laws_heldEntryS.F k⟩)]
abbrev laws_heldBook.ps : List Par := [⟨t25, .rd⟩, ⟨(.int .i64), .rd⟩]
abbrev laws_heldBook.rs : List Res := [⟨(.int .i64), .ro, false⟩]
def laws_heldBook.H : Heads := []
noncomputable def laws_heldBook.F : Nat → ProdT (laws_heldBook.ps.map (·.τ)) → Option (ProdT (outs laws_heldBook.ps laws_heldBook.rs)) := evFn E laws_heldBook.C laws_heldBook.H Try.f23 laws_heldBook.ps laws_heldBook.rs
noncomputable def laws_heldBook.f (k : Nat) (x0 : Book) (x1 : Int) : Option (Int) := laws_heldBook.F k (x0, x1)
theorem laws_heldBook.f_eq (k : Nat) (x0 : Book) (x1 : Int) : laws_heldBook.f k x0 x1 = (laws_heldAffixS.f k x0.1 x1).bind fun (r0 : Int) => ifb (decide (r0 < 0)) (some (-1 : Int)) ((laws_heldEntryS.f k x0.2 r0).bind fun (r1 : Int) => ifb (decide (r1 < 0)) (some (-1 : Int)) (some r1)) := by kernel_rfl
theorem laws_heldBook.ok (k : Nat) : CsOk Try.prog Jp (laws_heldBook.C k) := .cons (laws_heldAffixS.snd k) laws_heldAffixS.can <| .cons (laws_heldEntryS.snd k) laws_heldEntryS.can <| .nil
theorem laws_heldBook.can : Can Try.prog 23 := can_of (fn := Try.f23) (by kernel_rfl) (by kernel_rfl) (by kernel_rfl)
theorem laws_heldBook.snd (k : Nat) : Snd Try.prog Jp 23 ⟨laws_heldBook.ps, laws_heldBook.rs, laws_heldBook.F k⟩ := snd_of E_ok laws_heldBook.ok mixed (fn := Try.f23) (by kernel_rfl) (by kernel_rfl) (by kernel_rfl) k
noncomputable def laws_FnExactDeltaDo.C (k : Nat) : CEs := [(15, ⟨laws_szBook.ps, laws_szBook.rs, laws_szBook.F k⟩), (16, ⟨laws_szDelta.ps, laws_szDelta.rs, laws_szDelta.F k⟩), (17, ⟨laws_toBook.ps, laws_toBook.rs, laws_toBook.F k⟩), (18, ⟨laws_toDelta.ps, laws_toDelta.rs, laws_toDelta.F k⟩), (8, ⟨spec_DeltaDo.ps, spec_DeltaDo.rs, spec_DeltaDo.F k⟩), (7, ⟨impl_DeltaDo.ps, impl_DeltaDo.rs, impl_DeltaDo.F k⟩), (19, ⟨laws_eqBook.ps, laws_eqBook.rs, laws_eqBook.F k⟩), (20, ⟨laws_eqDelta.ps, laws_eqDelta.rs, laws_eqDelta.F k⟩), (21, ⟨laws_markBook.ps, laws_markBook.rs, laws_markBook.F k⟩), (22, ⟨laws_markDelta.ps, laws_markDelta.rs, laws_markDelta.F k⟩), (23, ⟨laws_heldBook.ps, laws_heldBook.rs, laws_heldBook.F k⟩)]
abbrev laws_FnExactDeltaDo.ps : List Par := [⟨t25, .rd⟩, ⟨t28, .rd⟩]
abbrev laws_FnExactDeltaDo.rs : List Res := [⟨.bool, .ro, false⟩]
def laws_FnExactDeltaDo.H : Heads := []
noncomputable def laws_FnExactDeltaDo.F : Nat → ProdT (laws_FnExactDeltaDo.ps.map (·.τ)) → Option (ProdT (outs laws_FnExactDeltaDo.ps laws_FnExactDeltaDo.rs)) := evFn E laws_FnExactDeltaDo.C laws_FnExactDeltaDo.H Try.f4 laws_FnExactDeltaDo.ps laws_FnExactDeltaDo.rs
noncomputable def laws_FnExactDeltaDo.f (k : Nat) (x0 : Book) (x1 : Delta) : Option (Bool) := laws_FnExactDeltaDo.F k (x0, x1)
theorem laws_FnExactDeltaDo.f_eq (k : Nat) (x0 : Book) (x1 : Delta) : laws_FnExactDeltaDo.f k x0 x1 = (laws_szBook.f k x0 (1048576 : Int)).bind fun (r0 : Int) => ifb (decide (r0 < 0)) (some true) ((laws_szDelta.f k x1 r0).bind fun (r1 : Int) => ifb (decide (r1 < 0)) (some true) ((laws_toBook.f k x0).bind fun (r2 : Book) => (laws_toDelta.f k x1).bind fun (r3 : Delta) => (spec_DeltaDo.f k r2 r3).bind fun (r4 : Book × Bool) => (laws_toBook.f k x0).bind fun (r5 : Book) => (laws_toDelta.f k x1).bind fun (r6 : Delta) => (impl_DeltaDo.f k r5 r6).bind fun (r7 : Book × Bool) => (laws_eqBook.f k r7.1 r4.1).bind fun (r8 : Bool) => ifb (!r8) (some false) (ifb (!(r7.2 == r4.2)) (some false) ((laws_toBook.f k x0).bind fun (r9 : Book) => (laws_eqBook.f k r5 r9).bind fun (r10 : Bool) => ifb (!r10) (some false) ((laws_toDelta.f k x1).bind fun (r11 : Delta) => (laws_eqDelta.f k r6 r11).bind fun (r12 : Bool) => ifb (!r12) (some false) ((laws_markBook.f k r5 (1 : Int)).bind fun (r13 : Int × Book) => (laws_markDelta.f k r6 r13.1).bind fun (r14 : Int × Delta) => ifb (decide (r14.1 < 0)) (some false) ((laws_eqBook.f k r7.1 r4.1).bind fun (r15 : Bool) => ifb (!r15) (some false) (ifb (!(r7.2 == r4.2)) (some false) ((laws_markBook.f k r7.1 (1 : Int)).bind fun (r16 : Int × Book) => (laws_heldBook.f k r16.2 (1 : Int)).bind fun (r17 : Int) => ifb (decide (r17 < 0)) (some false) (ifb (r17 != r16.1) (some false) ((laws_toBook.f k x0).bind fun (r18 : Book) => (laws_toDelta.f k x1).bind fun (r19 : Delta) => (impl_DeltaDo.f k r18 r19).bind fun (r20 : Book × Bool) => (laws_eqBook.f k r20.1 r4.1).bind fun (r21 : Bool) => ifb (!r21) (some false) (ifb (!(r20.2 == r4.2)) (some false) ((laws_heldBook.f k r16.2 (1 : Int)).bind fun (r22 : Int) => ifb (decide (r22 < 0)) (some false) (ifb (r22 != r16.1) (some false) (some true))))))))))))))) := by kernel_rfl
theorem laws_FnExactDeltaDo.ok (k : Nat) : CsOk Try.prog Jp (laws_FnExactDeltaDo.C k) := .cons (laws_szBook.snd k) laws_szBook.can <| .cons (laws_szDelta.snd k) laws_szDelta.can <| .cons (laws_toBook.snd k) laws_toBook.can <| .cons (laws_toDelta.snd k) laws_toDelta.can <| .cons (spec_DeltaDo.snd k) spec_DeltaDo.can <| .cons (impl_DeltaDo.snd k) impl_DeltaDo.can <| .cons (laws_eqBook.snd k) laws_eqBook.can <| .cons (laws_eqDelta.snd k) laws_eqDelta.can <| .cons (laws_markBook.snd k) laws_markBook.can <| .cons (laws_markDelta.snd k) laws_markDelta.can <| .cons (laws_heldBook.snd k) laws_heldBook.can <| .nil
theorem laws_FnExactDeltaDo.can : Can Try.prog 4 := can_of (fn := Try.f4) (by kernel_rfl) (by kernel_rfl) (by kernel_rfl)
theorem laws_FnExactDeltaDo.snd (k : Nat) : Snd Try.prog Jp 4 ⟨laws_FnExactDeltaDo.ps, laws_FnExactDeltaDo.rs, laws_FnExactDeltaDo.F k⟩ := snd_of E_ok laws_FnExactDeltaDo.ok mixed (fn := Try.f4) (by kernel_rfl) (by kernel_rfl) (by kernel_rfl) k
noncomputable def spec_l1Open.C (k : Nat) : CEs := []
abbrev spec_l1Open.ps : List Par := [⟨t22, .rd⟩]
abbrev spec_l1Open.rs : List Res := [⟨t91, .ro, true⟩]
def spec_l1Open.H : Heads := [(3, [(0, .ro)])]
noncomputable def spec_l1Open.F : Nat → ProdT (spec_l1Open.ps.map (·.τ)) → Option (ProdT (outs spec_l1Open.ps spec_l1Open.rs)) := evFn E spec_l1Open.C spec_l1Open.H Try.f29 spec_l1Open.ps spec_l1Open.rs
noncomputable def spec_l1Open.J3 (k : Nat) (x0 : List Int) : Option (List Int × Int) := atJ E spec_l1Open.C spec_l1Open.H Try.f29 spec_l1Open.ps spec_l1Open.rs [true, true] 0 [] k (sh 11 [(0, .d t22 x0 .ro)])
noncomputable def spec_l1Open.f (k : Nat) (x0 : List Int) : Option (List Int × Int) := spec_l1Open.F k x0
theorem spec_l1Open.f_eq (k : Nat) (x0 : List Int) : spec_l1Open.f k x0 = ifb (decide ((x0.length : Int) > (2000 : Int))) (ifb (decide (0 ≤ (0 : Int)) && (decide ((0 : Int) ≤ (2000 : Int)) && decide ((2000 : Int) ≤ (x0.length : Int)))) (spec_l1Open.J3 k ((x0.take (2000 : Int).toNat).drop (0 : Int).toNat)) (none)) (spec_l1Open.J3 k x0) := by kernel_rfl
theorem spec_l1Open.J3_eq (k : Nat) (x0 : List Int) : spec_l1Open.J3 (k + 1) x0 = some (x0, (0 : Int)) := by kernel_rfl
theorem spec_l1Open.ok (k : Nat) : CsOk Try.prog Jp (spec_l1Open.C k) := .nil
theorem spec_l1Open.can : Can Try.prog 29 := can_of (fn := Try.f29) (by kernel_rfl) (by kernel_rfl) (by kernel_rfl)
theorem spec_l1Open.snd (k : Nat) : Snd Try.prog Jp 29 ⟨spec_l1Open.ps, spec_l1Open.rs, spec_l1Open.F k⟩ := snd_of E_ok spec_l1Open.ok mixed (fn := Try.f29) (by kernel_rfl) (by kernel_rfl) (by kernel_rfl) k
noncomputable def spec_l1Rd__pick.C (k : Nat) : CEs := []
abbrev spec_l1Rd__pick.ps : List Par := [⟨t91, .bx .ro⟩, ⟨(.int .i64), .rd⟩]
abbrev spec_l1Rd__pick.rs : List Res := [⟨(.int .i64), .ro, false⟩]
def spec_l1Rd__pick.H : Heads := [(8, [(0, (.pr .ro .ro)), (1, .ro), (6, .ro)])]
noncomputable def spec_l1Rd__pick.F : Nat → ProdT (spec_l1Rd__pick.ps.map (·.τ)) → Option (ProdT (outs spec_l1Rd__pick.ps spec_l1Rd__pick.rs)) := evFn E spec_l1Rd__pick.C spec_l1Rd__pick.H Try.f31 spec_l1Rd__pick.ps spec_l1Rd__pick.rs
noncomputable def spec_l1Rd__pick.J8 (k : Nat) (x0 : List Int × Int) (x1 : Int) (x6 : Int) : Option (Int × (List Int × Int)) := atJ E spec_l1Rd__pick.C spec_l1Rd__pick.H Try.f31 spec_l1Rd__pick.ps spec_l1Rd__pick.rs [true, true, true, true, true, true] 0 [] k (sh 99 [(0, .box t91 x0 (.pr .ro .ro) none), (1, .d (.int .i64) x1 .ro), (6, .d (.int .i64) x6 .ro)])
noncomputable def spec_l1Rd__pick.f (k : Nat) (x0 : List Int × Int) (x1 : Int) : Option (Int × (List Int × Int)) := spec_l1Rd__pick.F k (x0, x1)
theorem spec_l1Rd__pick.f_eq (k : Nat) (x0 : List Int × Int) (x1 : Int) : spec_l1Rd__pick.f k x0 x1 = ifb (decide (x1 < (1 : Int))) (some ((0 : Int), (x0.1, (w64 (x0.2 + 1))))) (ifb ((x0.1.length : Int) == (0 : Int)) (some ((0 : Int), (x0.1, (w64 (x0.2 + 1))))) (ifb (decide ((w64 ((w64 (x0.2 + 1)) - 1)) < (x0.1.length : Int))) (ifb (decide (0 ≤ (w64 ((w64 (x0.2 + 1)) - 1))) && decide ((w64 ((w64 (x0.2 + 1)) - 1)) < (x0.1.length : Int))) (ifb (decide (x1 ≠ 0)) (some (((w64 (x0.1.getD ((w64 ((w64 (x0.2 + 1)) - 1)).toNat) (0 : Int))).tmod x1), (x0.1, (w64 (x0.2 + 1))))) (none)) (none)) (ifb (decide ((x0.1.length : Int) ≠ 0)) (ifb (decide (0 ≤ ((w64 ((w64 (x0.2 + 1)) - 1)).tmod (x0.1.length : Int))) && decide (((w64 ((w64 (x0.2 + 1)) - 1)).tmod (x0.1.length : Int)) < (x0.1.length : Int))) (ifb (decide ((x0.1.length : Int) ≠ 0)) (ifb (decide (0 ≤ ((w64 ((w64 ((w64 ((w64 (x0.2 + 1)) - 1)) * (7 : Int))) + (3 : Int))).tmod (x0.1.length : Int))) && decide (((w64 ((w64 ((w64 ((w64 (x0.2 + 1)) - 1)) * (7 : Int))) + (3 : Int))).tmod (x0.1.length : Int)) < (x0.1.length : Int))) (ifb (decide ((x0.1.length : Int) ≠ 0)) (spec_l1Rd__pick.J8 k (x0.1, (w64 (x0.2 + 1))) x1 (w64 ((w64 ((w64 ((w64 ((w64 (x0.1.getD (((w64 ((w64 (x0.2 + 1)) - 1)).tmod (x0.1.length : Int)).toNat) (0 : Int))) * (131 : Int))) + (w64 ((w64 (x0.1.getD (((w64 ((w64 ((w64 ((w64 (x0.2 + 1)) - 1)) * (7 : Int))) + (3 : Int))).tmod (x0.1.length : Int)).toNat) (0 : Int))) * (1117 : Int))))) + (w64 ((w64 ((w64 (x0.2 + 1)) - 1)) * (29 : Int))))) + (w64 ((w64 ((w64 ((w64 (x0.2 + 1)) - 1)).tdiv (x0.1.length : Int))) * (53 : Int)))))) (none)) (none)) (none)) (none)) (none)))) := by kernel_rfl
theorem spec_l1Rd__pick.J8_eq (k : Nat) (x0 : List Int × Int) (x1 : Int) (x6 : Int) : spec_l1Rd__pick.J8 (k + 1) x0 x1 x6 = ifb (decide ((64 : Int) ≠ 0)) (ifb (decide (x1 ≠ 0)) (some (((w64 ((BitVec.ofInt 64 x6 ^^^ BitVec.ofInt 64 (w64 (x6.tdiv (64 : Int)))).toNat)).tmod x1), x0)) (none)) (none) := by kernel_rfl
theorem spec_l1Rd__pick.ok (k : Nat) : CsOk Try.prog Jp (spec_l1Rd__pick.C k) := .nil
theorem spec_l1Rd__pick.can : Can Try.prog 31 := can_of (fn := Try.f31) (by kernel_rfl) (by kernel_rfl) (by kernel_rfl)
theorem spec_l1Rd__pick.snd (k : Nat) : Snd Try.prog Jp 31 ⟨spec_l1Rd__pick.ps, spec_l1Rd__pick.rs, spec_l1Rd__pick.F k⟩ := snd_of E_ok spec_l1Rd__pick.ok mixed (fn := Try.f31) (by kernel_rfl) (by kernel_rfl) (by kernel_rfl) k
noncomputable def spec_l13Affix.C (k : Nat) : CEs := [(31, ⟨spec_l1Rd__pick.ps, spec_l1Rd__pick.rs, spec_l1Rd__pick.F k⟩)]
abbrev spec_l13Affix.ps : List Par := [⟨t91, .bx .ro⟩]
abbrev spec_l13Affix.rs : List Res := [⟨t71, .ro, false⟩]
def spec_l13Affix.H : Heads := [(2, [(0, .ro), (2, .ro), (3, (.own .ro))])]
noncomputable def spec_l13Affix.F : Nat → ProdT (spec_l13Affix.ps.map (·.τ)) → Option (ProdT (outs spec_l13Affix.ps spec_l13Affix.rs)) := evFn E spec_l13Affix.C spec_l13Affix.H Try.f100 spec_l13Affix.ps spec_l13Affix.rs
noncomputable def spec_l13Affix.J2 (k : Nat) (x0 : List Int × Int) (x2 : Aff) (x3 : List Aff) : Option ((Aff) × (List Int × Int)) := atJ E spec_l13Affix.C spec_l13Affix.H Try.f100 spec_l13Affix.ps spec_l13Affix.rs [true, true] 0 [] k (sh 20 [(0, .box t91 x0 .ro none), (2, .box t71 x2 .ro none), (3, .d t23 x3 (.own .ro))])
noncomputable def spec_l13Affix.f (k : Nat) (x0 : List Int × Int) : Option ((Aff) × (List Int × Int)) := spec_l13Affix.F k x0
theorem spec_l13Affix.f_eq (k : Nat) (x0 : List Int × Int) : spec_l13Affix.f k x0 = spec_l13Affix.J2 k x0 zA [((⟨#[83]⟩ : ByteArray), false, bz, (⟨#[115]⟩ : ByteArray), bz), ((⟨#[83]⟩ : ByteArray), false, (⟨#[121]⟩ : ByteArray), (⟨#[105, 101, 115]⟩ : ByteArray), (⟨#[121]⟩ : ByteArray)), ((⟨#[71]⟩ : ByteArray), false, bz, (⟨#[105, 110, 103]⟩ : ByteArray), bz), ((⟨#[71]⟩ : ByteArray), false, (⟨#[101]⟩ : ByteArray), (⟨#[105, 110, 103]⟩ : ByteArray), (⟨#[101]⟩ : ByteArray)), ((⟨#[85]⟩ : ByteArray), true, bz, (⟨#[117, 110]⟩ : ByteArray), bz), ((⟨#[82]⟩ : ByteArray), true, (⟨#[97]⟩ : ByteArray), (⟨#[98]⟩ : ByteArray), (⟨#[97]⟩ : ByteArray)), ((⟨#[84]⟩ : ByteArray), false, bz, (⟨#[116]⟩ : ByteArray), (⟨#[97, 99]⟩ : ByteArray)), ((⟨#[67]⟩ : ByteArray), false, bz, (⟨#[97, 98, 99]⟩ : ByteArray), bz)] := by kernel_rfl
theorem spec_l13Affix.J2_eq (k : Nat) (x0 : List Int × Int) (x2 : Aff) (x3 : List Aff) : spec_l13Affix.J2 (k + 1) x0 x2 x3 = (spec_l1Rd__pick.f k x0 (x3.length : Int)).bind fun (r0 : Int × (List Int × Int)) => ifb (decide (0 ≤ r0.1) && decide (r0.1 < (x3.length : Int))) (some ((x3.getD r0.1.toNat zA), r0.2)) (none) := by kernel_rfl
theorem spec_l13Affix.ok (k : Nat) : CsOk Try.prog Jp (spec_l13Affix.C k) := .cons (spec_l1Rd__pick.snd k) spec_l1Rd__pick.can <| .nil
theorem spec_l13Affix.can : Can Try.prog 100 := can_of (fn := Try.f100) (by kernel_rfl) (by kernel_rfl) (by kernel_rfl)
theorem spec_l13Affix.snd (k : Nat) : Snd Try.prog Jp 100 ⟨spec_l13Affix.ps, spec_l13Affix.rs, spec_l13Affix.F k⟩ := snd_of E_ok spec_l13Affix.ok mixed (fn := Try.f100) (by kernel_rfl) (by kernel_rfl) (by kernel_rfl) k
noncomputable def spec_l13Affixes.C (k : Nat) : CEs := [(31, ⟨spec_l1Rd__pick.ps, spec_l1Rd__pick.rs, spec_l1Rd__pick.F k⟩), (100, ⟨spec_l13Affix.ps, spec_l13Affix.rs, spec_l13Affix.F k⟩)]
abbrev spec_l13Affixes.ps : List Par := [⟨t91, .bx .ro⟩]
abbrev spec_l13Affixes.rs : List Res := [⟨t23, (.own .ro), false⟩]
def spec_l13Affixes.H : Heads := [(3, [(0, .ro), (3, (.own .ro)), (4, .ro)]), (8, [(0, .ro), (3, (.own .ro)), (4, .ro), (5, .ro), (6, .ro), (7, .ro)]), (9, [(0, .ro), (3, (.own .ro)), (4, .ro), (5, .ro), (6, .ro), (7, .ro)])]
noncomputable def spec_l13Affixes.F : Nat → ProdT (spec_l13Affixes.ps.map (·.τ)) → Option (ProdT (outs spec_l13Affixes.ps spec_l13Affixes.rs)) := evFn E spec_l13Affixes.C spec_l13Affixes.H Try.f71 spec_l13Affixes.ps spec_l13Affixes.rs
noncomputable def spec_l13Affixes.L3 (k k1 : Nat) (x0 : List Int × Int) (x3 : List Aff) (x4 : Int) : Option (List Aff × (List Int × Int)) := atL E spec_l13Affixes.C spec_l13Affixes.H Try.f71 spec_l13Affixes.ps spec_l13Affixes.rs [true, true, false, true, true] k [] k1 (sh 39 [(0, .box t91 x0 .ro none), (3, .d t23 x3 (.own .ro)), (4, .d (.int .i64) x4 .ro)])
noncomputable def spec_l13Affixes.L8 (k k1 k2 : Nat) (x0 : List Int × Int) (x3 : List Aff) (x4 : Int) (x5 : Aff) (x6 : Bool) (x7 : Int) : Option (List Aff × (List Int × Int)) := atL E spec_l13Affixes.C spec_l13Affixes.H Try.f71 spec_l13Affixes.ps spec_l13Affixes.rs [true, true, false, true, true, true, true, false, true, true, true, false, true, true] k [k1] k2 (sh 39 [(0, .box t91 x0 .ro none), (3, .d t23 x3 (.own .ro)), (4, .d (.int .i64) x4 .ro), (5, .box t71 x5 .ro none), (6, .d .bool x6 .ro), (7, .d (.int .i64) x7 .ro)])
noncomputable def spec_l13Affixes.J9 (k k1 k2 k3 : Nat) (x0 : List Int × Int) (x3 : List Aff) (x4 : Int) (x5 : Aff) (x6 : Bool) (x7 : Int) : Option (List Aff × (List Int × Int)) := atJ E spec_l13Affixes.C spec_l13Affixes.H Try.f71 spec_l13Affixes.ps spec_l13Affixes.rs [true, true, false, true, true, true, true, false, true, true, true, false, true, true, true, true, true] k [k1, k2] k3 (sh 39 [(0, .box t91 x0 .ro none), (3, .d t23 x3 (.own .ro)), (4, .d (.int .i64) x4 .ro), (5, .box t71 x5 .ro none), (6, .d .bool x6 .ro), (7, .d (.int .i64) x7 .ro)])
noncomputable def spec_l13Affixes.f (k : Nat) (x0 : List Int × Int) : Option (List Aff × (List Int × Int)) := spec_l13Affixes.F k x0
theorem spec_l13Affixes.f_eq (k : Nat) (x0 : List Int × Int) : spec_l13Affixes.f k x0 = (spec_l1Rd__pick.f k x0 (5 : Int)).bind fun (r0 : Int × (List Int × Int)) => spec_l13Affixes.L3 k k r0.2 ([] : List Aff) r0.1 := by kernel_rfl
theorem spec_l13Affixes.L3_eq (k k1 : Nat) (x0 : List Int × Int) (x3 : List Aff) (x4 : Int) : spec_l13Affixes.L3 k (k1 + 1) x0 x3 x4 = ifb (decide (x4 > 0)) ((spec_l13Affix.f k1 x0).bind fun (r1 : (Aff) × (List Int × Int)) => spec_l13Affixes.L8 k k1 k1 r1.2 x3 x4 r1.1 false (0 : Int)) (some (x3, x0)) := by kernel_rfl
theorem spec_l13Affixes.L8_eq (k k1 k2 : Nat) (x0 : List Int × Int) (x3 : List Aff) (x4 : Int) (x5 : Aff) (x6 : Bool) (x7 : Int) : spec_l13Affixes.L8 k k1 (k2 + 1) x0 x3 x4 x5 x6 x7 = ifb (decide (x7 < (x3.length : Int))) (ifb x6 (spec_l13Affixes.J9 k k1 k2 k2 x0 x3 x4 x5 true x7) (ifb (decide (0 ≤ x7) && decide (x7 < (x3.length : Int))) (spec_l13Affixes.J9 k k1 k2 k2 x0 x3 x4 x5 ((((x3.getD x7.toNat zA).1).toList == x5.1.toList) && ((((x3.getD x7.toNat zA).2).1 == x5.2.1) && ((((((x3.getD x7.toNat zA).2).2).1).toList == x5.2.2.1.toList) && (((((((x3.getD x7.toNat zA).2).2).2).1).toList == x5.2.2.2.1.toList) && ((((((x3.getD x7.toNat zA).2).2).2).2).toList == x5.2.2.2.2.toList))))) x7) (none))) (ifb (!x6) (ifb (decide ((x3.length + [x5].length) * 72 ≤ rowMax)) (spec_l13Affixes.L3 k k1 x0 (x3 ++ [x5]) (w64 (x4 - 1))) (none)) (spec_l13Affixes.L3 k k1 x0 x3 (w64 (x4 - 1)))) := by kernel_rfl
theorem spec_l13Affixes.J9_eq (k k1 k2 k3 : Nat) (x0 : List Int × Int) (x3 : List Aff) (x4 : Int) (x5 : Aff) (x6 : Bool) (x7 : Int) : spec_l13Affixes.J9 k k1 k2 (k3 + 1) x0 x3 x4 x5 x6 x7 = spec_l13Affixes.L8 k k1 k2 x0 x3 x4 x5 x6 (w64 (x7 + 1)) := by kernel_rfl
theorem spec_l13Affixes.ok (k : Nat) : CsOk Try.prog Jp (spec_l13Affixes.C k) := .cons (spec_l1Rd__pick.snd k) spec_l1Rd__pick.can <| .cons (spec_l13Affix.snd k) spec_l13Affix.can <| .nil
theorem spec_l13Affixes.can : Can Try.prog 71 := can_of (fn := Try.f71) (by kernel_rfl) (by kernel_rfl) (by kernel_rfl)
theorem spec_l13Affixes.snd (k : Nat) : Snd Try.prog Jp 71 ⟨spec_l13Affixes.ps, spec_l13Affixes.rs, spec_l13Affixes.F k⟩ := snd_of E_ok spec_l13Affixes.ok mixed (fn := Try.f71) (by kernel_rfl) (by kernel_rfl) (by kernel_rfl) k
end Go.Proofs.Ytabindnaedchgaa.Rf
end
