import Derived.Test.YtjfkeknnjjlepaaGreatDoorK3

section
namespace Go.Proofs.YtjfkeknnjjlepaaGreatDoor.Rf
open Go Go.RowKit
set_option linter.unusedVariables false
set_option linter.unusedSimpArgs false
theorem Al.thd {p : Nat → Prop} (h : Al p) : Al3 fun _ _ c => p c := h.imp fun _ h _ _ c _ _ hc => h c hc
theorem qol {n : Nat} {b c : Nat → Bool} (h : ∀ i, i < n → b i = c i) : qa0 n b = qa0 n c := by
  rw [Bool.eq_iff_iff, q5b, q5b]
  exact ⟨fun k i hi => h i hi ▸ k i hi, fun k i hi => (h i hi).symm ▸ k i hi⟩
theorem qku {ρ : Type} {G : Nat → Nat → Nat → Int → Option ρ} {n : Nat} (b : Nat → Bool) {stop fin : ρ} (done : Al3 fun k k1 k2 => G k k1 k2 (n : Int) = some fin)
    (body : ∀ i, i < n → ∀ r, Al3 (fun k k1 k2 => G k k1 k2 ((i + 1 : Nat) : Int) = some r) → Al3 fun k k1 k2 => G k k1 k2 (i : Int) = some (cond (b i) r stop)) :
    Al3 fun k k1 k2 => G k k1 k2 0 = some (cond (qa0 n b) fin stop) := by
  have := qa1 (Q := fun i => Al3 fun k k1 k2 => G k k1 k2 (i : Int) = some (cond (q9i n i b) fin stop)) n (by simp only [qfe, cond_true]; exact done) (fun i hi h => by
    have := body i hi _ h
    rw [qdx b hi]
    cases hb : b i
    · simpa [hb] using this
    · simpa [hb] using this) 0 (Nat.zero_le n)
  rw [qdw] at this
  exact this
theorem qx8 (a b : Nat) : decide ((a : Int) < (b : Int)) = decide (a < b) := by
  by_cases h : a < b
  · rw [decide_eq_true h]; exact decide_eq_true (by omega)
  · rw [decide_eq_false h]; exact decide_eq_false (by omega)
end Go.Proofs.YtjfkeknnjjlepaaGreatDoor.Rf
end

section
namespace Go.Proofs.YtjfkeknnjjlepaaGreatDoor.Rf
open Go Go.RowKit
set_option linter.unusedVariables false
noncomputable section
theorem q2u.st_eq (g : Int → Option ByteArray) (x0 : Int) : q2u.st g x0 = ifb (decide (x0 < (-9223372036854775807 : Int))) (some (⟨#[45, 57, 50, 50, 51, 51, 55, 50, 48, 51, 54, 56, 53, 52, 55, 55, 53, 56, 48, 56]⟩ : ByteArray)) (ifb (decide (x0 < 0)) ((g (w64 (0 - x0))).bind fun (r0 : ByteArray) => ifb (q5x ((⟨#[45]⟩ : ByteArray).size + r0.size)) (some ((⟨#[45]⟩ : ByteArray) ++ r0)) (none)) (ifb (decide (x0 < (10 : Int))) (some (strOf [(IntKind.u8.wrap (w64 ((48 : Int) + x0)))])) (ifb (decide ((10 : Int) ≠ 0)) ((g (w64 (x0.tdiv (10 : Int)))).bind fun (r1 : ByteArray) => ifb (decide ((10 : Int) ≠ 0)) (ifb (q5x (r1.size + (strOf [(IntKind.u8.wrap (w64 ((48 : Int) + (x0.tmod (10 : Int)))))]).size)) (some (r1 ++ (strOf [(IntKind.u8.wrap (w64 ((48 : Int) + (x0.tmod (10 : Int)))))]))) (none)) (none)) (none)))) := by kernel_rfl
end
end Go.Proofs.YtjfkeknnjjlepaaGreatDoor.Rf
end
