/- impl.entryAt, walked by hand: slices.IndexFunc with a closure that has captured a text. -/
import Derived.Test.YtabindnaedchgaaRtJ
import Derived.Test.YtabindnaedchgaaEShelf
import Derived.Shelf.SlicesQ.IndexFunc
import Derived.Lib.SliceRun
namespace Go.Proofs.Ytabindnaedchgaa.Rf
open Go Go.RowKit
set_option linter.unusedVariables false
set_option linter.unusedSimpArgs false
/-- The cells of an entry. -/
def encE (x : ByteArray × ByteArray) : List Value := [.string x.1, .string x.2]
theorem entry_pred (s : ByteArray) (B : Nat) (w : World) (hB : B < w.heap.size) (hcell : w.cell? ⟨B, 0, none⟩ = some (.string s)) :
    PredBelow Try.prog 77 #[.pointer (some ⟨B, 0, none⟩)] (fun x => .agg (encE x).toArray) (fun x => x.1.toList == s.toList) w := fun W x hb => by
  have hc : W.cell? ⟨B, 0, none⟩ = some (.string s) := (hb.cell (p := ⟨B, 0, none⟩) hB).trans hcell
  have hBW : B < W.heap.size := Nat.lt_of_lt_of_le hB hb.size
  have hne : B ≠ W.heap.size := by omega
  show Calls Try.prog 77 #[.agg #[.string x.1, .string x.2], .pointer (some ⟨B, 0, none⟩)] W _
  go_enter Try.func77, Try.ntmps77
  go_wp2
  go_ret
  exact ⟨rfl, hb.alloc hb.size _⟩
theorem index_empty (a : Option Addr) (c : Nat) (fv : Value) (w : World) :
    Calls Try.prog 76 #[.slice a 0 c, fv] w fun e w' => e = .returned (.int .i64 (-1)) ∧ w' = w := by
  go_enter Try.func76, Try.ntmps76
  go_wp2
  go_loopg [5, 8] 0 (fun _ _ s8 wr => s8 = .int .i64 0 ∧ wr = w)
  case atStart => exact ⟨rfl, rfl⟩
  case round =>
    obtain ⟨rfl, rfl⟩ := hrel
    go_wp2
    go_ret
    exact ⟨rfl, rfl⟩
instance instEn : Inhabited (ByteArray × ByteArray) := ⟨(ByteArray.empty, ByteArray.empty)⟩
/-- The place of the first entry with a stem. -/
def idxE (l : List (ByteArray × ByteArray)) (s : ByteArray) : Int := Lib.idxBy (fun _ y => y.1.toList == s.toList) l default
set_option maxHeartbeats 4000000 in
theorem entryAt_calls (A0 : Option Addr) (c0 : Nat) (l0 : List (ByteArray × ByteArray)) (a1 : ByteArray) (w : World) (hlen : l0.length ≤ 4611686018427387904)
    (hr : l0 = [] ∨ ∃ b off, A0 = some ⟨b, off, none⟩ ∧ b < w.heap.size ∧ ∀ j, j < l0.length → ∀ i v, (encE l0[j]!)[i]? = some v → w.cell? ⟨b, off + j * 2 + i, none⟩ = some v) :
    Calls Try.prog 34 #[.slice A0 l0.length c0, .string a1] w fun e w' => e = .returned (.int .i64 (idxE l0 a1)) ∧ Below w.heap.size w w' := by
  have hcon : Calls Try.prog 76 #[.slice A0 l0.length c0, .func (.func 77) #[] #[.pointer (some ⟨w.heap.size, 0, none⟩)]] (w.alloc (.cells #[.string a1] 9)) fun e w' => e = .returned (.int .i64 (idxE l0 a1)) ∧ Below (w.alloc (.cells #[.string a1] 9)).heap.size (w.alloc (.cells #[.string a1] 9)) w' := by
    rcases hr with rfl | ⟨b, off, rfl, hb, hc⟩
    · exact (index_empty A0 c0 _ _).mono fun e w' ⟨he, hw⟩ => ⟨he, hw ▸ Below.refl _ _⟩
    · have eg : ∀ args w, (callFunc 77 args).run Try.prog w = .ok (.enter 77 args) w := enters_of Try.func77 (by kernel_rfl) rfl
      have h := AnyQ.slices_IndexFunc Try.laysIdx 2 Try.isAgg38 Try.sizeOf38 encE (fun _ => rfl) (fun x => x.1.toList == a1.toList) 77 #[.pointer (some ⟨w.heap.size, 0, none⟩)] eg b off l0.length c0 l0 (w.alloc (.cells #[.string a1] 9))
        (entry_pred a1 w.heap.size _ (by simp) (by simp)) (Nat.le_refl _) (by omega) (by simp; omega) (fun j hj i v hi => Lib.cell?_alloc_some _ (hc j hj i v hi))
      rw [List.take_length] at h
      exact h
  unfold idxE at hcon ⊢
  generalize Lib.idxBy (fun _ y => y.1.toList == a1.toList) l0 default = r at hcon ⊢
  go_enter Try.func34, Try.ntmps34
  go_wp2_with (go_at_call 76; refine hcon.mono ?_; rintro e w' ⟨rfl, hb'⟩)
  go_ret
  exact ⟨rfl, ((Below.refl _ w).alloc (Nat.le_refl _) _).trans (hb'.mono (by simp))⟩
abbrev impl_entryAt.ps : List Par := [⟨.row (.st (.pair .str .str)), .rd⟩, ⟨.str, .rd⟩]
abbrev impl_entryAt.rs : List Res := [⟨.int .i64, .ro, false⟩]
def impl_entryAt.F (_ : Nat) (x : List (ByteArray × ByteArray) × ByteArray) : Option Int := if x.1.length ≤ 4611686018427387904 then some (idxE x.1 x.2) else none
def impl_entryAt.f (k : Nat) (l : List (ByteArray × ByteArray)) (s : ByteArray) : Option Int := impl_entryAt.F k (l, s)
theorem impl_entryAt.can : Can Try.prog 34 := can_of (fn := Try.f34) (by kernel_rfl) (by kernel_rfl) (by kernel_rfl)
theorem impl_entryAt.snd (k : Nat) : Snd Try.prog Jp 34 ⟨impl_entryAt.ps, impl_entryAt.rs, impl_entryAt.F k⟩ := by
  refine snd_ro rfl ?_
  rintro ⟨l, s⟩ r hr ξ w vs wf _ hsz ha
  simp only [impl_entryAt.F] at hr
  split at hr
  case isFalse => cases hr
  rename_i hlen
  obtain rfl := Option.some.inj hr
  obtain ⟨T0, cs, h0, h1⟩ := ha 0 _ _ rfl rfl
  obtain ⟨T1, h2⟩ := ha 1 _ _ rfl rfl
  have h2 := own_str (by simp) h2
  obtain ⟨A, cap, rfl, k1, k2⟩ := h1.row_ro
  obtain rfl := vs_two hsz h0 h2
  refine (entryAt_calls A cap l s w hlen ?_).mono ?_
  · rcases Nat.eq_zero_or_pos l.length with h | h
    · exact .inl (List.eq_nil_of_length_eq_zero h)
    · obtain ⟨a, c, e1, e2, e3, e4, e5⟩ := k2 0 h
      obtain rfl := rel_pair e5
      obtain ⟨b, off, sp⟩ := a
      simp only at e2 e4
      subst e2
      refine .inr ⟨b, off, e1, cell_lt (e4 0 _ rfl), fun j hj i v hi => ?_⟩
      obtain ⟨a', c', g1, g2, g3, g4, g5⟩ := k2 j hj
      rw [e1] at g1
      obtain rfl := Option.some.inj g1
      obtain rfl := rel_pair g5
      rw [show l[j]! = l[j] from getElem!_pos l j hj] at hi
      exact g4 i v hi
  · rintro e w' ⟨he, hb⟩
    exact ⟨_, Em, he, hb, of_int _ _ _ _ _, fun b hb => hb.elim⟩
end Go.Proofs.Ytabindnaedchgaa.Rf
