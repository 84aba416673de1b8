import Derived.Test.YtndjhgjakdkkaaaWWords
import Derived.ChangeArms
import Derived.DataReads
import Derived.WideShapes
import Derived.ChangeShapes
import Derived.Test.YtndjhgjakdkkaaaBExactSplitTextx1
import Derived.KernelRfl
import Derived.Test.YtndjhgjakdkkaaaWMore
import Derived.Test.YtndjhgjakdkkaaaBExactSplitTextx2
import Derived.Test.YtndjhgjakdkkaaaBExactSplitTextx3
import Derived.Test.YtndjhgjakdkkaaaRows
import Derived.WalkKit
import Derived.ProofKit
import Derived.OpenShut
import Derived.ShutString
import Derived.ChangeOld
import Derived.Below
import Derived.SizedLaws

section
/- How an argument that is read as data gives the reading that the contracts ask: integers, bools, strings, slices and structs of these, of any depth. -/
namespace Go.Proofs.Ytndjhgjakdkkaaa.Frame
open Go.RowKit Go.Proofs.YtndjhgjakdkkaaaW.PrintWords Go.ChangeShapes Go.WideShapes
set_option linter.unusedVariables false

/-- Whatever reads as data at type t has cells that are of kind d, and the value is good. -/
def Opens {α : Type} (P : Program) (t : TypeId) (d : Kd α) (G : α → Prop) : Prop :=
  ∀ (H : Type) (enc : TypeId × Value → H) (w : World) (base : Nat) (spare : Nat → Bool) (held : Bool) (fuel : Nat) (cs : List Value) (x : DataW H × List MemPlace),
    DataW.trod enc P w base spare held fuel t cs = some x → ∃ v : α, d.K w v cs ∧ G v

theorem Opens.int {P : Program} {t : TypeId} {k : IntKind} (h : P.underlying t = some (.int k)) : Opens P t (Kd.int k) (fun n => (Lit.int k n).wf = true) := by
  intro H enc w base spare held fuel cs x hx
  obtain ⟨n, rfl, _, hw⟩ := DataW.trod_int h hx
  exact ⟨n, rfl, hw⟩
theorem Opens.bool {P : Program} {t : TypeId} (h : P.underlying t = some .bool) : Opens P t Kd.bool (fun _ => True) := by
  intro H enc w base spare held fuel cs x hx
  obtain ⟨b, rfl, _⟩ := DataW.trod_bool h hx
  exact ⟨b, rfl, trivial⟩
theorem Opens.string {P : Program} {t : TypeId} (h : P.underlying t = some .string) : Opens P t Kd.string (fun s => s.size ≤ 9223372036854775807) := by
  intro H enc w base spare held fuel cs x hx
  obtain ⟨s, rfl, _, hs⟩ := DataW.trod_string h hx
  exact ⟨s, rfl, hs⟩
theorem list_choice {α : Type} (p : Nat → α → Prop) : ∀ n, (∀ i, i < n → ∃ x, p i x) → ∃ xs : List α, xs.length = n ∧ ∀ i x, xs[i]? = some x → p i x
  | 0, _ => ⟨[], rfl, fun i x h => by simp at h⟩
  | n + 1, h => by
    obtain ⟨xs, hl, hx⟩ := list_choice p n (fun i hi => h i (by omega))
    obtain ⟨y, hy⟩ := h n (by omega)
    refine ⟨xs ++ [y], by simp [hl], fun i x hi => ?_⟩
    rcases Nat.lt_or_ge i xs.length with hlt | hge
    · rw [List.getElem?_append_left hlt] at hi
      exact hx i x hi
    · rw [List.getElem?_append_right hge] at hi
      have h0 : i - xs.length = 0 := by
        rcases Nat.eq_zero_or_pos (i - xs.length) with h0 | h0
        · exact h0
        · rw [List.getElem?_eq_none (by simp; omega)] at hi
          cases hi
      rw [h0] at hi
      simp at hi
      subst hi
      have : i = n := by omega
      subst this
      exact hy
theorem Opens.slice {α : Type} {P : Program} {t e : TypeId} {d : Kd α} {G : α → Prop} (h : P.underlying t = some (.slice e)) (hs : P.cellsOf e = d.sz) (he : Opens P e d G) :
    Opens P t (Kd.slice e d) (fun xs => xs.length ≤ 9223372036854775807 ∧ ∀ x ∈ xs, G x) := by
  intro H enc w base spare held fuel cs x hx
  rcases DataW.trod_slice h hx with ⟨rfl, _⟩ | ⟨a, len, cap, elems, rest, n, _, rfl, _, hb, hl, hm, hlen, hel, _, _⟩
  · exact ⟨[], ⟨none, 0, rfl, Nat.le_refl _, rfl, by simp, fun h => absurd h (by simp)⟩, by simp, fun x hx => by simp at hx⟩
  · have hex : ∀ i, i < len → ∃ v : α, G v ∧ ∃ c, c.length = d.sz ∧ d.K w v c ∧ ∀ j u, c[j]? = some u → w.cell? (a.add (i * d.sz + j)) = some u := by
      intro i hi
      have hk := hel i hi
      rw [List.getElem?_eq_getElem (by omega)] at hk
      obtain ⟨c, hc, ht⟩ := Option.bind_eq_some_iff.1 hk
      obtain ⟨_, hcl, hcc⟩ := World.cells?_some hc
      obtain ⟨v, hv, hg⟩ := he H enc w base spare held n c _ ht
      refine ⟨v, hg, c, by rw [hcl, hs], hv, fun j u hj => ?_⟩
      have hjl : j < c.length := by
        rcases Nat.lt_or_ge j c.length with h1 | h1
        · exact h1
        · rw [List.getElem?_eq_none h1] at hj
          cases hj
      have h2 := hcc j (by omega)
      rw [hj] at h2
      rw [hs] at h2
      have ha : (a.add (i * d.sz)).add j = a.add (i * d.sz + j) := by
        unfold Addr.add
        by_cases h1 : i * d.sz = 0 <;> by_cases h3 : j = 0 <;> simp [h1, h3, Nat.add_assoc]
      rw [← ha]
      exact h2
    obtain ⟨xs, hxl, hxs⟩ := list_choice _ len hex
    refine ⟨xs, ⟨some a, cap, by rw [hxl], by omega, hxl ▸ rfl, by unfold maxLen at hm; omega, fun _ => ⟨a, rfl, fun j p hj => (hxs j p hj).2⟩⟩, by unfold maxLen at hm; omega, fun x hx => ?_⟩
    obtain ⟨i, hi⟩ := List.getElem?_of_mem hx
    exact (hxs i x hi).1

/-- The fields from the offset 'off' on, one behind the other. -/
def OpensF {α : Type} (P : Program) (fs : List Field) (off : Nat) (d : Kd α) (G : α → Prop) : Prop :=
  ∀ (H : Type) (enc : TypeId × Value → H) (w : World) (base : Nat) (spare : Nat → Bool) (held : Bool) (fuel : Nat) (cs : List Value) (xs : List (DataW H × List MemPlace)),
    cs.length = off + d.sz → (∀ (i : Nat) (f : Field), fs[i]? = some f → DataW.trod enc P w base spare held fuel f.type ((cs.drop f.offset).take (P.cellsOf f.type)) = xs[i]?) → xs.length = fs.length → ∃ v : α, d.K w v (cs.drop off) ∧ G v
theorem OpensF.one {α : Type} {P : Program} {f : Field} {off : Nat} {d : Kd α} {G : α → Prop} (ho : f.offset = off) (hs : P.cellsOf f.type = d.sz) (h : Opens P f.type d G) : OpensF P [f] off d G := by
  intro H enc w base spare held fuel cs xs hl hx hxl
  have h0 := hx 0 f rfl
  obtain ⟨x0, rfl⟩ : ∃ x0, xs = [x0] := by
    match xs, hxl with
    | [x0], _ => exact ⟨x0, rfl⟩
  obtain ⟨v, hv, hg⟩ := h H enc w base spare held fuel _ _ h0
  refine ⟨v, ?_, hg⟩
  rw [ho, hs, List.take_of_length_le (by rw [List.length_drop]; omega)] at hv
  exact hv
theorem OpensF.cons {α β : Type} {P : Program} {f : Field} {fs : List Field} {off : Nat} {d : Kd α} {e : Kd β} {G : α → Prop} {K : β → Prop} (ho : f.offset = off) (hs : P.cellsOf f.type = d.sz) (h : Opens P f.type d G) (hr : OpensF P fs (off + d.sz) e K) :
    OpensF P (f :: fs) off (Kd.pair d e) (fun x => G x.1 ∧ K x.2) := by
  intro H enc w base spare held fuel cs xs hl hx hxl
  have hl' : cs.length = off + d.sz + e.sz := by rw [hl]; show off + (d.sz + e.sz) = _; omega
  obtain ⟨x0, xr, rfl⟩ : ∃ x0 xr, xs = x0 :: xr := by
    match xs, hxl with
    | x0 :: xr, _ => exact ⟨x0, xr, rfl⟩
  obtain ⟨v, hv, hg⟩ := h H enc w base spare held fuel _ _ (hx 0 f rfl)
  obtain ⟨u, hu, hk⟩ := hr H enc w base spare held fuel cs xr hl' (fun i g hi => hx (i + 1) g hi) (by simpa using hxl)
  refine ⟨(v, u), ⟨(cs.drop off).take d.sz, cs.drop (off + d.sz), ?_, ?_, hu⟩, hg, hk⟩
  · rw [← List.drop_drop, List.take_append_drop]
  · rw [ho, hs] at hv
    exact hv
theorem Opens.struct {α β : Type} {P : Program} {t : TypeId} {fs : Array Field} {d : Kd α} {G : α → Prop} {f : β → α} (g : α → β) (hfg : ∀ x, f (g x) = x) (h : P.underlying t = some (.struct fs)) (hs : P.cellsOf t = d.sz) (hf : OpensF P fs.toList 0 d G) :
    Opens P t (Kd.iso d f) (fun x => G (f x)) := by
  intro H enc w base spare held fuel cs x hx
  obtain ⟨xs, n, _, _, hl, hxl, hi⟩ := DataW.trod_struct h hx
  obtain ⟨v, hv, hg⟩ := hf H enc w base spare held n cs xs (by rw [hl, hs]; omega) (fun i fd hfd => hi i fd (by rw [← Array.getElem?_toList]; exact hfd)) (by rw [hxl]; simp)
  refine ⟨g v, ?_, ?_⟩
  · show d.K w (f (g v)) cs
    rw [hfg]
    simpa using hv
  · show G (f (g v))
    rw [hfg]
    exact hg
end Go.Proofs.Ytndjhgjakdkkaaa.Frame
end

section
/- How the parameters' types are opened. -/
namespace Go.Proofs.Ytndjhgjakdkkaaa.M
open Go.RowKit Go.Proofs.YtndjhgjakdkkaaaW.PrintWords Go.Proofs.Ytndjhgjakdkkaaa.Frame
set_option linter.unusedVariables false
def good24 (x : S24) : Prop := x.f0.size ≤ 9223372036854775807 ∧ (x.f1.length ≤ 9223372036854775807 ∧ ∀ y ∈ x.f1, (Lit.int .i64 y).wf = true)
theorem opens24 : Opens Try.prog 24 k24 good24 := Opens.struct (g := fun p => (⟨p.1, p.2⟩ : S24)) (fun _ => rfl) Try.underlying24 (by kernel_rfl) (OpensF.cons rfl (by kernel_rfl) (Opens.string Try.underlying9) (OpensF.one rfl (by kernel_rfl) (Opens.slice Try.underlying22 (by kernel_rfl) (Opens.int Try.underlying3))))
end Go.Proofs.Ytndjhgjakdkkaaa.M
end

section
/- Plain lemmas about functions with a number of rounds; nothing of any program. -/
namespace Go.Proofs.Ytndjhgjakdkkaaa.Pu
open Go.RowKit Go.Proofs.YtndjhgjakdkkaaaW.PrintWords
set_option linter.unusedVariables false

theorem Ev.succ {α : Type} {g : Nat → Option α} {r : α} (h : Ev (fun k => g (k + 1)) r) : Ev g r := Ev.step (fun _ => rfl) h
theorem Ev.pure_ {α : Type} (r : α) : Ev (fun _ => some r) r := Ev.now r
theorem Ev.unique {α : Type} {g : Nat → Option α} {r s : α} (h : Ev g r) (h' : Ev g s) : r = s := by
  obtain ⟨K, h⟩ := h
  obtain ⟨K', h'⟩ := h'
  have a := h (max K K') (by omega)
  have b := h' (max K K') (by omega)
  rw [a] at b
  exact Option.some.inj b
theorem Ev.cast {α : Type} {g : Nat → Option α} {r s : α} (h : Ev g r) (e : r = s) : Ev g s := e ▸ h
theorem wid {x : Int} (h0 : -9223372036854775808 ≤ x) (h1 : x ≤ 9223372036854775807) : wrap64 x = x := by
  unfold wrap64
  omega

/-- A loop that goes on while P holds. -/
theorem all_from {α : Type} {g : Nat → Int → Option α} (n : Nat) (P : Nat → Prop) [DecidablePred P] (stop fin : α)
    (step : ∀ (i : Nat) (r : α), i < n → P i → Ev (fun k => g k ((i : Int) + 1)) r → Ev (fun k => g k (i : Int)) r)
    (fail : ∀ i : Nat, i < n → ¬ P i → Ev (fun k => g k (i : Int)) stop)
    (done : Ev (fun k => g k (n : Int)) fin) (d : Nat) : ∀ i : Nat, n - i = d → i ≤ n → Ev (fun k => g k (i : Int)) (if ∀ j, j < n → i ≤ j → P j then fin else stop) := by
  induction d with
  | zero =>
    intro i hd hi
    obtain rfl : i = n := by omega
    rw [if_pos (fun j h1 h2 => absurd h1 (by omega))]
    exact done
  | succ d ih =>
    intro i hd hi
    by_cases hp : P i
    · have h := ih (i + 1) (by omega) (by omega)
      have e : (if ∀ j, j < n → i + 1 ≤ j → P j then fin else stop) = (if ∀ j, j < n → i ≤ j → P j then fin else stop) := by
        have : (∀ j, j < n → i + 1 ≤ j → P j) ↔ (∀ j, j < n → i ≤ j → P j) := by
          refine ⟨fun h j h1 h2 => ?_, fun h j h1 h2 => h j h1 (by omega)⟩
          rcases Nat.eq_or_lt_of_le h2 with rfl | h3
          · exact hp
          · exact h j h1 h3
        simp only [this]
      rw [e] at h
      exact step i _ (by omega) hp (by exact_mod_cast h)
    · rw [if_neg (fun h => hp (h i (by omega) (Nat.le_refl _)))]
      exact fail i (by omega) hp
theorem all_loop {α : Type} {g : Nat → Int → Option α} (n : Nat) (P : Nat → Prop) [DecidablePred P] (stop fin : α)
    (step : ∀ (i : Nat) (r : α), i < n → P i → Ev (fun k => g k ((i : Int) + 1)) r → Ev (fun k => g k (i : Int)) r)
    (fail : ∀ i : Nat, i < n → ¬ P i → Ev (fun k => g k (i : Int)) stop)
    (done : Ev (fun k => g k (n : Int)) fin) : Ev (fun k => g k 0) (if ∀ j, j < n → P j then fin else stop) := by
  have h := all_from n P stop fin step fail done n 0 (by omega) (by omega)
  have e : (∀ j, j < n → 0 ≤ j → P j) ↔ (∀ j, j < n → P j) := ⟨fun h j h1 => h j h1 (Nat.zero_le _), fun h j h1 _ => h j h1⟩
  simp only [e] at h
  exact h
/-- A loop that builds a value, round by round: F i is what stands at round i. -/
theorem fold_loop {α β : Type} {g : Nat → β → Int → Option α} (n : Nat) (F : Nat → β) (r : α)
    (step : ∀ (i : Nat), i < n → Ev (fun k => g k (F (i + 1)) ((i : Int) + 1)) r → Ev (fun k => g k (F i) (i : Int)) r)
    (done : Ev (fun k => g k (F n) (n : Int)) r) : Ev (fun k => g k (F 0) 0) r := by
  have key : ∀ d i : Nat, n - i = d → i ≤ n → Ev (fun k => g k (F i) (i : Int)) r := by
    intro d
    induction d with
    | zero =>
      intro i hd hi
      obtain rfl : i = n := by omega
      exact done
    | succ d ih =>
      intro i hd hi
      exact step i (by omega) (by exact_mod_cast ih (i + 1) (by omega) (by omega))
  exact_mod_cast key n 0 (by omega) (by omega)
theorem rd_nat (xs : List Int) (i : Nat) : rd xs (i : Int) = xs.getD i 0 := by simp [rd]
theorem bt_nat (s : ByteArray) (i : Nat) : bt s (i : Int) = if h : i < s.size then ((s[i]'h).toNat : Int) else 0 := by simp [bt]
theorem bt_le (s : ByteArray) (i : Int) : bt s i ≤ 255 := (bt_range s i).2
theorem bt_ge (s : ByteArray) (i : Int) : 0 ≤ bt s i := (bt_range s i).1
theorem toList_inj {a b : ByteArray} : a.toList = b.toList ↔ a = b := by
  constructor
  · intro h
    rw [ByteArray.toList_eq, ByteArray.toList_eq] at h
    exact ByteArray.ext (Array.toList_inj.1 h)
  · rintro rfl
    rfl
/-- Two lists of one length and with the same elements are one. -/
theorem ints_eq {xs ys : List Int} (hl : xs.length = ys.length) : (∀ j, j < xs.length → rd xs (j : Int) = rd ys (j : Int)) ↔ xs = ys := by
  constructor
  · intro h
    refine List.ext_getElem hl (fun i h1 h2 => ?_)
    have := h i h1
    simpa [rd, List.getD_eq_getElem?_getD, h1, h2] using this
  · rintro rfl
    exact fun _ _ => rfl
/-- A copy, element by element. -/
theorem copy_set {α β : Type} (f : α → β) (xs : List α) (z : β) (i : Nat) (h : i < xs.length) :
    ((xs.take i).map f ++ List.replicate (xs.length - i) z).set i (f xs[i]) = (xs.take (i + 1)).map f ++ List.replicate (xs.length - (i + 1)) z := by
  have hl : ((xs.take i).map f).length = i := by simp; omega
  rw [List.set_append_right _ _ (by omega), hl, Nat.sub_self]
  obtain ⟨m, hm⟩ : ∃ m, xs.length - i = m + 1 := ⟨xs.length - i - 1, by omega⟩
  rw [hm, List.replicate_succ, List.set_cons_zero, List.take_succ_eq_append_getElem h, List.map_append, List.append_assoc]
  have : xs.length - (i + 1) = m := by omega
  rw [this]
  rfl
end Go.Proofs.Ytndjhgjakdkkaaa.Pu
end

section
/- The plain meaning of PatternOk in the program and in the reference, and of the copies and comparisons of a pattern. -/
namespace Go.Proofs.Ytndjhgjakdkkaaa.M
open Go.RowKit Go.Proofs.YtndjhgjakdkkaaaW.PrintWords Go.Proofs.Ytndjhgjakdkkaaa.Pu
set_option linter.unusedVariables false
set_option linter.unusedSimpArgs false

def figOk (n : Int) : Prop := 0 ≤ n ∧ n ≤ 9
instance (n : Int) : Decidable (figOk n) := inferInstanceAs (Decidable (_ ∧ _))
def signOk (s : ByteArray) (i : Nat) : Prop := (bt s i = 46 ∧ (i = 0 ∨ i + 1 = s.size)) ∨ (97 ≤ bt s i ∧ bt s i ≤ 122)
instance (s : ByteArray) (i : Nat) : Decidable (signOk s i) := inferInstanceAs (Decidable (_ ∨ _))
def patOk (s : ByteArray) (ns : List Int) : Bool :=
  decide (∀ i, i < s.size → signOk s i) && (decide (∀ i, i < ns.length → figOk (rd ns i)) && (decide (1 ≤ s.size ∧ s.size ≤ 8) && decide (ns.length = s.size + 1)))

theorem within_eq (a b c : Int) : impl_within.f a b c = some (decide (b ≤ a ∧ a ≤ c)) := by
  unfold impl_within.f
  by_cases h : a ≥ b
  · have h' : b ≤ a := h
    simp [h']
  · have h' : ¬ b ≤ a := h
    simp [h']
theorem l1In_eq (a b c : Int) : spec_l1In.f a b c = some (decide (b ≤ a ∧ a ≤ c)) := by
  unfold spec_l1In.f
  by_cases h : a ≥ b
  · have h' : b ≤ a := h
    simp [h']
  · have h' : ¬ b ≤ a := h
    simp [h']

theorem spec_PatternOk_l1 (s : ByteArray) (ns : List Int) (hs : s.size ≤ 9223372036854775800) (hn : ns.length ≤ 9223372036854775800) :
    Ev (fun k => spec_PatternOk.l1 k (s.size : Int) 0 s ns) (decide (∀ i, i < ns.length → figOk (rd ns i)) && (decide (1 ≤ s.size ∧ s.size ≤ 8) && decide (ns.length = s.size + 1))) := by
  refine Ev.cast (all_loop (g := fun k x => spec_PatternOk.l1 k (s.size : Int) x s ns) ns.length (fun i => figOk (rd ns i)) false (decide (1 ≤ s.size ∧ s.size ≤ 8) && decide (ns.length = s.size + 1)) ?_ ?_ ?_) ?_
  · intro i r hi hp h
    have h1 : (i : Int) < (ns.length : Int) := by omega
    have h2 : (0 : Int) ≤ (i : Int) := by omega
    have h3 : wrap64 ((i : Int) + 1) = (i : Int) + 1 := wid (by omega) (by omega)
    have h4 : decide ((0 : Int) ≤ rd ns i ∧ rd ns i ≤ 9) = true := decide_eq_true hp
    apply Ev.succ
    simp only [spec_PatternOk.l1, h1, h2, h3, l1In_eq, h4, Option.bind_some, if_true]
    exact h
  · intro i hi hp
    have h1 : (i : Int) < (ns.length : Int) := by omega
    have h2 : (0 : Int) ≤ (i : Int) := by omega
    have h4 : decide ((0 : Int) ≤ rd ns i ∧ rd ns i ≤ 9) = false := decide_eq_false hp
    apply Ev.succ
    simp only [spec_PatternOk.l1, h1, h2, l1In_eq, h4, Option.bind_some, if_true, Bool.false_eq_true, if_false]
    exact Ev.now _
  · have h3 : wrap64 ((s.size : Int) + 1) = (s.size : Int) + 1 := wid (by omega) (by omega)
    apply Ev.succ
    simp only [spec_PatternOk.l1, Int.lt_irrefl, h3, l1In_eq, Option.bind_some, if_false]
    by_cases h : 1 ≤ s.size ∧ s.size ≤ 8
    · have h4 : decide ((1 : Int) ≤ (s.size : Int) ∧ (s.size : Int) ≤ 8) = true := decide_eq_true (by omega)
      simp only [h4, if_true, h, decide_true, Bool.true_and]
      refine Ev.cast (Ev.now _) ?_
      by_cases e : ns.length = s.size + 1
      · have : (ns.length : Int) = (s.size : Int) + 1 := by omega
        simp [e]
      · have : ¬ (ns.length : Int) = (s.size : Int) + 1 := by omega
        simp [e, this]
    · have h4 : decide ((1 : Int) ≤ (s.size : Int) ∧ (s.size : Int) ≤ 8) = false := decide_eq_false (by omega)
      simp only [h4, Bool.false_eq_true, if_false, h, decide_false, Bool.false_and]
      exact Ev.now _
  · by_cases h : ∀ i, i < ns.length → figOk (rd ns i) <;> simp [h]

theorem spec_PatternOk_ev (s : ByteArray) (ns : List Int) (hs : s.size ≤ 9223372036854775800) (hn : ns.length ≤ 9223372036854775800) :
    Ev (fun k => spec_PatternOk.f k s ns) (patOk s ns) := by
  unfold spec_PatternOk.f
  refine Ev.cast (all_loop (g := fun k x => spec_PatternOk.l0 k (s.size : Int) x s ns) s.size (signOk s) false _ ?_ ?_ ?_) (r := if ∀ i, i < s.size → signOk s i then (decide (∀ i, i < ns.length → figOk (rd ns i)) && (decide (1 ≤ s.size ∧ s.size ≤ 8) && decide (ns.length = s.size + 1))) else false) ?_
  · intro i r hi hp h
    have h1 : (i : Int) < (s.size : Int) := by omega
    have h2 : (0 : Int) ≤ (i : Int) := by omega
    have h3 : wrap64 ((i : Int) + 1) = (i : Int) + 1 := wid (by omega) (by omega)
    have h5 : wrap64 ((s.size : Int) - 1) = (s.size : Int) - 1 := wid (by omega) (by omega)
    apply Ev.succ
    simp only [spec_PatternOk.l0, h1, h2, h3, h5, if_true]
    by_cases c : bt s i = 46
    · simp only [c, if_true]
      by_cases c0 : (i : Int) = 0
      · simp only [c0, if_true]
        rw [c0] at h
        exact h
      · simp only [c0, if_false]
        by_cases c1 : (i : Int) = (s.size : Int) - 1
        · simp only [c1, if_true]
          rw [c1] at h
          exact h
        · rcases hp with ⟨_, hp | hp⟩ | hp
          · omega
          · omega
          · omega
    · rcases hp with ⟨hp, _⟩ | hp
      · exact absurd hp c
      · have c2 : ¬ bt s i < 97 := by omega
        have c3 : ¬ bt s i > 122 := by omega
        simp only [c, c2, c3, if_false]
        exact h
  · intro i hi hp
    have h1 : (i : Int) < (s.size : Int) := by omega
    have h2 : (0 : Int) ≤ (i : Int) := by omega
    have h5 : wrap64 ((s.size : Int) - 1) = (s.size : Int) - 1 := wid (by omega) (by omega)
    have hq := not_or.1 hp
    apply Ev.succ
    simp only [spec_PatternOk.l0, h1, h2, h5, if_true]
    by_cases c : bt s i = 46
    · have c0 : ¬ (i : Int) = 0 := fun e => hq.1 ⟨c, .inl (by omega)⟩
      have c1 : ¬ (i : Int) = (s.size : Int) - 1 := fun e => hq.1 ⟨c, .inr (by omega)⟩
      simp only [c, c0, c1, if_true, if_false]
      exact Ev.now _
    · simp only [c, if_false]
      by_cases c2 : bt s i < 97
      · simp only [c2, if_true]
        exact Ev.now _
      · have c3 : bt s i > 122 := by
          have := hq.2
          omega
        simp only [c2, c3, if_true, if_false]
        exact Ev.now _
  · apply Ev.succ
    simp only [spec_PatternOk.l0, Int.lt_irrefl, if_false]
    exact spec_PatternOk_l1 s ns hs hn
  · unfold patOk
    by_cases h : ∀ i, i < s.size → signOk s i <;> simp [h]

theorem impl_lower_ev (s : ByteArray) (hs : s.size ≤ 9223372036854775800) : Ev (fun k => impl_lower.f k s) (decide (∀ i, i < s.size → 97 ≤ bt s i ∧ bt s i ≤ 122)) := by
  unfold impl_lower.f
  refine Ev.cast (all_loop (g := fun k x => impl_lower.l0 k s (s.size : Int) x) s.size (fun i => 97 ≤ bt s i ∧ bt s i ≤ 122) false true ?_ ?_ ?_) ?_
  · intro i r hi hp h
    have h1 : (i : Int) < (s.size : Int) := by omega
    have h2 : (0 : Int) ≤ (i : Int) := by omega
    have h3 : wrap64 ((i : Int) + 1) = (i : Int) + 1 := wid (by omega) (by omega)
    have c2 : ¬ bt s i < 97 := by omega
    have c3 : ¬ bt s i > 122 := by omega
    apply Ev.succ
    simp only [impl_lower.l0, h1, h2, h3, c2, c3, if_true, if_false]
    exact h
  · intro i hi hp
    have h1 : (i : Int) < (s.size : Int) := by omega
    have h2 : (0 : Int) ≤ (i : Int) := by omega
    apply Ev.succ
    by_cases c2 : bt s i < 97
    · simp only [impl_lower.l0, h1, h2, c2, if_true]
      exact Ev.now _
    · have c3 : bt s i > 122 := by omega
      simp only [impl_lower.l0, h1, h2, c2, c3, if_true, if_false]
      exact Ev.now _
  · apply Ev.succ
    simp only [impl_lower.l0, Int.lt_irrefl, if_false]
    exact Ev.now _
  · by_cases h : ∀ i, i < s.size → 97 ≤ bt s i ∧ bt s i ≤ 122 <;> simp [h]

theorem bt_extract (s : ByteArray) (a b i : Nat) (hb : b ≤ s.size) (hi : i < b - a) : bt (s.extract a b) i = bt s (a + i : Nat) := by
  rw [bt_nat, bt_nat, dif_pos (by rw [ByteArray.size_extract]; omega), dif_pos (by omega)]
  simp [ByteArray.getElem_extract]

theorem impl_PatternOk_l1 (ns : List Int) (hn : ns.length ≤ 9223372036854775800) : Ev (fun k => impl_PatternOk.l1 k ns (ns.length : Int) 0) (decide (∀ i, i < ns.length → figOk (rd ns i))) := by
  refine Ev.cast (all_loop (g := fun k x => impl_PatternOk.l1 k ns (ns.length : Int) x) ns.length (fun i => figOk (rd ns i)) false true ?_ ?_ ?_) ?_
  · intro i r hi hp h
    have h1 : (i : Int) < (ns.length : Int) := by omega
    have h2 : (0 : Int) ≤ (i : Int) := by omega
    have h3 : wrap64 ((i : Int) + 1) = (i : Int) + 1 := wid (by omega) (by omega)
    have h4 : decide ((0 : Int) ≤ rd ns i ∧ rd ns i ≤ 9) = true := decide_eq_true hp
    apply Ev.succ
    simp only [impl_PatternOk.l1, h1, h2, h3, within_eq, h4, Option.bind_some, if_true]
    exact h
  · intro i hi hp
    have h1 : (i : Int) < (ns.length : Int) := by omega
    have h2 : (0 : Int) ≤ (i : Int) := by omega
    have h4 : decide ((0 : Int) ≤ rd ns i ∧ rd ns i ≤ 9) = false := decide_eq_false hp
    apply Ev.succ
    simp only [impl_PatternOk.l1, h1, h2, within_eq, h4, Option.bind_some, if_true, Bool.false_eq_true, if_false]
    exact Ev.now _
  · apply Ev.succ
    simp only [impl_PatternOk.l1, Int.lt_irrefl, if_false]
    exact Ev.now _
  · by_cases h : ∀ i, i < ns.length → figOk (rd ns i) <;> simp [h]

theorem impl_PatternOk_l0 (s : ByteArray) (ns : List Int) (hs : s.size ≤ 9223372036854775800) (hn : ns.length ≤ 9223372036854775800) :
    Ev (fun k => impl_PatternOk.l0 k (s.size : Int) 0 s ns) (decide (∀ i, i < s.size → signOk s i) && decide (∀ i, i < ns.length → figOk (rd ns i))) := by
  refine Ev.cast (all_loop (g := fun k x => impl_PatternOk.l0 k (s.size : Int) x s ns) s.size (signOk s) false (decide (∀ i, i < ns.length → figOk (rd ns i))) ?_ ?_ ?_) ?_
  · intro i r hi hp h
    have h1 : (i : Int) < (s.size : Int) := by omega
    have h2 : (0 : Int) ≤ (i : Int) := by omega
    have h3 : wrap64 ((i : Int) + 1) = (i : Int) + 1 := wid (by omega) (by omega)
    have h5 : wrap64 ((s.size : Int) - 1) = (s.size : Int) - 1 := wid (by omega) (by omega)
    have h6 : (i : Int) ≤ (i : Int) + 1 := by omega
    have h7 : (i : Int) + 1 ≤ (s.size : Int) := by omega
    have e1 : ((i : Int) + 1).toNat = i + 1 := by omega
    have e0 : ((i : Int)).toNat = i := by omega
    have hlow := impl_lower_ev (s.extract i (i + 1)) (by rw [ByteArray.size_extract]; omega)
    have hval : (97 ≤ bt s i ∧ bt s i ≤ 122) → decide (∀ j, j < (s.extract i (i + 1)).size → 97 ≤ bt (s.extract i (i + 1)) j ∧ bt (s.extract i (i + 1)) j ≤ 122) = true := by
      intro hb
      refine decide_eq_true (fun j hj => ?_)
      rw [ByteArray.size_extract] at hj
      obtain rfl : j = 0 := by omega
      rw [bt_extract s i (i + 1) 0 (by omega) (by omega)]
      exact hb
    apply Ev.succ
    simp only [impl_PatternOk.l0, h1, h2, h3, h5, h6, h7, e0, e1, if_true]
    by_cases c : bt s i = 46
    · simp only [c, if_true]
      by_cases c0 : (i : Int) = 0
      · simp only [c0, if_true]
        rw [c0] at h
        exact h
      · simp only [c0, if_false]
        by_cases c1 : (i : Int) = (s.size : Int) - 1
        · simp only [c1, if_true]
          rw [c1] at h
          exact h
        · rcases hp with ⟨_, hp | hp⟩ | hp
          · omega
          · omega
          · omega
    · rcases hp with ⟨hp, _⟩ | hp
      · exact absurd hp c
      · simp only [c, if_false]
        rw [hval hp] at hlow
        refine Ev.bind hlow ?_
        simp only [if_true]
        exact h
  · intro i hi hp
    have h1 : (i : Int) < (s.size : Int) := by omega
    have h2 : (0 : Int) ≤ (i : Int) := by omega
    have h3 : wrap64 ((i : Int) + 1) = (i : Int) + 1 := wid (by omega) (by omega)
    have h5 : wrap64 ((s.size : Int) - 1) = (s.size : Int) - 1 := wid (by omega) (by omega)
    have h6 : (i : Int) ≤ (i : Int) + 1 := by omega
    have h7 : (i : Int) + 1 ≤ (s.size : Int) := by omega
    have e1 : ((i : Int) + 1).toNat = i + 1 := by omega
    have e0 : ((i : Int)).toNat = i := by omega
    have hq := not_or.1 hp
    have hlow := impl_lower_ev (s.extract i (i + 1)) (by rw [ByteArray.size_extract]; omega)
    have hval : decide (∀ j, j < (s.extract i (i + 1)).size → 97 ≤ bt (s.extract i (i + 1)) j ∧ bt (s.extract i (i + 1)) j ≤ 122) = false := by
      refine decide_eq_false (fun hb => hq.2 ?_)
      have hz := hb 0 (by rw [ByteArray.size_extract]; omega)
      rw [bt_extract s i (i + 1) 0 (by omega) (by omega)] at hz
      exact hz
    rw [hval] at hlow
    apply Ev.succ
    simp only [impl_PatternOk.l0, h1, h2, h3, h5, h6, h7, e0, e1, if_true]
    by_cases c : bt s i = 46
    · have c0 : ¬ (i : Int) = 0 := fun e => hq.1 ⟨c, .inl (by omega)⟩
      have c1 : ¬ (i : Int) = (s.size : Int) - 1 := fun e => hq.1 ⟨c, .inr (by omega)⟩
      simp only [c, c0, c1, if_true, if_false]
      refine Ev.bind hlow ?_
      simp only [Bool.false_eq_true, if_false]
      exact Ev.now _
    · simp only [c, if_false]
      refine Ev.bind hlow ?_
      simp only [Bool.false_eq_true, if_false]
      exact Ev.now _
  · apply Ev.succ
    simp only [impl_PatternOk.l0, Int.lt_irrefl, if_false]
    exact impl_PatternOk_l1 ns hn
  · by_cases h : ∀ i, i < s.size → signOk s i <;> simp [h]

theorem impl_PatternOk_ev (s : ByteArray) (ns : List Int) (hs : s.size ≤ 9223372036854775800) (hn : ns.length ≤ 9223372036854775800) :
    Ev (fun k => impl_PatternOk.f k s ns) (patOk s ns) := by
  unfold impl_PatternOk.f
  have h3 : wrap64 ((s.size : Int) + 1) = (s.size : Int) + 1 := wid (by omega) (by omega)
  simp only [within_eq, Option.bind_some, h3]
  by_cases h : 1 ≤ s.size ∧ s.size ≤ 8
  · have h4 : decide ((1 : Int) ≤ (s.size : Int) ∧ (s.size : Int) ≤ 8) = true := decide_eq_true (by omega)
    simp only [h4, if_true]
    apply Ev.succ
    by_cases e : ns.length = s.size + 1
    · have e1 : ((ns.length : Int) != (s.size : Int) + 1) = false := by rw [bne_eq_false_iff_eq]; omega
      simp only [impl_PatternOk.j0, e1, Bool.false_eq_true, if_false]
      refine Ev.cast (impl_PatternOk_l0 s ns hs hn) ?_
      simp [patOk, h, e]
    · have e1 : ((ns.length : Int) != (s.size : Int) + 1) = true := by rw [bne_iff_ne]; omega
      simp only [impl_PatternOk.j0, e1, if_true]
      refine Ev.cast (Ev.now _) ?_
      simp [patOk, e]
  · have h4 : decide ((1 : Int) ≤ (s.size : Int) ∧ (s.size : Int) ≤ 8) = false := decide_eq_false (by omega)
    simp only [h4, Bool.false_eq_true, if_false]
    apply Ev.succ
    simp only [impl_PatternOk.j0, if_true]
    refine Ev.cast (Ev.now _) ?_
    have : decide (1 ≤ s.size ∧ s.size ≤ 8) = false := decide_eq_false h
    simp [patOk, this]

theorem toIntS_ev (xs : List Int) (h : xs.length ≤ 35184372088832) : Ev (fun k => laws_toIntS.f k xs) xs := by
  unfold laws_toIntS.f
  have h1 : (0 : Int) ≤ (xs.length : Int) := by omega
  have h2 : ((xs.length : Int)).toNat = xs.length := by omega
  simp only [h1, h2, h, if_true]
  refine Ev.cast (fold_loop (g := fun k ys x => laws_toIntS.l0 k xs ys x) xs.length (fun i => (xs.take i).map id ++ List.replicate (xs.length - i) 0) xs ?_ ?_) rfl |> fun z => (by simpa using z)
  · intro i hi hr
    have c1 : (i : Int) < (xs.length : Int) := by omega
    have c2 : (0 : Int) ≤ (i : Int) := by omega
    have c3 : wrap64 ((i : Int) + 1) = (i : Int) + 1 := wid (by omega) (by omega)
    have c4 : (i : Int) < (((xs.take i).map id ++ List.replicate (xs.length - i) 0).length : Int) := by simp; omega
    have c5 : ((i : Int)).toNat = i := by omega
    have c6 : rd xs i = id xs[i] := by simp [rd, hi]
    apply Ev.succ
    simp only [laws_toIntS.l0, c1, c2, c3, c4, c5, c6, if_true, copy_set id xs 0 i hi]
    exact hr
  · apply Ev.succ
    simp only [laws_toIntS.l0, Int.lt_irrefl, if_false]
    refine Ev.cast (Ev.now _) ?_
    simp
theorem toPattern_ev (s : ByteArray) (xs : List Int) (h : xs.length ≤ 35184372088832) : Ev (fun k => laws_toPattern.f k s xs) (s, xs) := by
  unfold laws_toPattern.f
  refine Ev.bind (toIntS_ev xs h) ?_
  exact Ev.now _
theorem eqIntS_refl (xs : List Int) (h : xs.length ≤ 9223372036854775800) : Ev (fun k => laws_eqIntS.f k xs xs) true := by
  unfold laws_eqIntS.f
  simp only [if_true]
  refine Ev.cast (all_loop (g := fun k x => laws_eqIntS.l0 k xs xs x) xs.length (fun _ => True) false true ?_ ?_ ?_) (by simp)
  · intro i r hi _ hr
    have c1 : (i : Int) < (xs.length : Int) := by omega
    have c2 : (0 : Int) ≤ (i : Int) := by omega
    have c3 : wrap64 ((i : Int) + 1) = (i : Int) + 1 := wid (by omega) (by omega)
    apply Ev.succ
    simp only [laws_eqIntS.l0, c1, c2, c3, if_true]
    exact hr
  · intro i hi hp
    exact absurd trivial hp
  · apply Ev.succ
    simp only [laws_eqIntS.l0, Int.lt_irrefl, if_false]
    exact Ev.now _
theorem eqPattern_refl (s : ByteArray) (xs : List Int) (h : xs.length ≤ 9223372036854775800) : Ev (fun k => laws_eqPattern.f k s xs s xs) true := by
  unfold laws_eqPattern.f
  simp only [if_true]
  refine Ev.bind (eqIntS_refl xs h) ?_
  simp only [if_true]
  exact Ev.now _
/-- What passes the law's measure is small. -/
theorem szPattern_small (s : ByteArray) (xs : List Int) (hs : s.size ≤ 9223372036854775807) (hn : xs.length ≤ 9223372036854775807) (left : Int) (h0 : 0 ≤ left) (h1 : left ≤ 1048576) :
    ∃ r, laws_szPattern.f s xs left = some r ∧ r ≤ left ∧ -1 ≤ r ∧ (0 ≤ r → (s.size : Int) + (xs.length : Int) + r = left) := by
  unfold laws_szPattern.f laws_szIntS.f
  have e1 : wrap64 (left - (s.size : Int)) = left - (s.size : Int) := wid (by omega) (by omega)
  rw [e1]
  by_cases c : left - (s.size : Int) < 0
  · rw [if_pos c]
    exact ⟨_, rfl, by omega, by omega, fun h => by omega⟩
  · rw [if_neg c]
    have e2 : wrap64 (left - (s.size : Int) - (xs.length : Int)) = left - (s.size : Int) - (xs.length : Int) := wid (by omega) (by omega)
    rw [e2]
    by_cases c2 : left - (s.size : Int) - (xs.length : Int) < 0
    · rw [if_pos c2]
      exact ⟨-1, by simp, by omega, by omega, fun h => by omega⟩
    · rw [if_neg c2]
      simp only [Option.bind_some, c2, if_false]
      exact ⟨_, rfl, by omega, by omega, fun h => by omega⟩
end Go.Proofs.Ytndjhgjakdkkaaa.M
end

section
/- The plain meaning of SplitAt and SplitText in the program and in the reference. -/
namespace Go.Proofs.Ytndjhgjakdkkaaa.M
open Go.RowKit Go.Proofs.YtndjhgjakdkkaaaW.PrintWords Go.Proofs.Ytndjhgjakdkkaaa.Pu
set_option linter.unusedVariables false
set_option linter.unusedSimpArgs false

abbrev Pat := S27
abbrev LPat := S24
theorem rdP_nat (xs : List Pat) (i : Nat) (h : i < xs.length) : rd_T27 xs (i : Int) = xs[i] := by
  simp [rd_T27, h]
theorem rdLP_nat (xs : List LPat) (i : Nat) (h : i < xs.length) : rd_T24 xs (i : Int) = xs[i] := by
  simp [rd_T24, h]

/-! ### words -/
def wordB (s : ByteArray) : Bool := decide (∀ i, i < s.size → 97 ≤ bt s i ∧ bt s i ≤ 122) && decide (1 ≤ s.size ∧ s.size ≤ 12)
theorem spec_l1Letters_ev (s : ByteArray) (m : Int) (hs : s.size ≤ 9223372036854775800) :
    Ev (fun k => spec_l1Letters.f k s m) (decide (∀ i, i < s.size → 97 ≤ bt s i ∧ bt s i ≤ 122) && decide ((s.size : Int) ≤ m)) := by
  unfold spec_l1Letters.f
  refine Ev.cast (all_loop (g := fun k x => spec_l1Letters.l0 k s m x) s.size (fun i => 97 ≤ bt s i ∧ bt s i ≤ 122) false (decide ((s.size : Int) ≤ m)) ?_ ?_ ?_) ?_
  · intro i r hi hp h
    have h1 : (i : Int) < (s.size : Int) := by omega
    have h2 : (0 : Int) ≤ (i : Int) := by omega
    have h3 : Aside0 (wrap64 ((i : Int) + 1) = (i : Int) + 1) := ⟨wid (by omega) (by omega)⟩
    have c2 : ¬ bt s i < 97 := by omega
    have c3 : ¬ bt s i > 122 := by omega
    apply Ev.succ
    simp only [spec_l1Letters.l0, h1, h2, h3.out, c2, c3, if_true, if_false]
    exact h
  · intro i hi hp
    have h1 : (i : Int) < (s.size : Int) := by omega
    have h2 : (0 : Int) ≤ (i : Int) := by omega
    apply Ev.succ
    by_cases c2 : bt s i < 97
    · simp only [spec_l1Letters.l0, h1, h2, c2, if_true]
      exact Ev.now _
    · have c3 : bt s i > 122 := by omega
      simp only [spec_l1Letters.l0, h1, h2, c2, c3, if_true, if_false]
      exact Ev.now _
  · apply Ev.succ
    simp only [spec_l1Letters.l0, Int.lt_irrefl, if_false]
    exact Ev.now _
  · by_cases h : ∀ i, i < s.size → 97 ≤ bt s i ∧ bt s i ≤ 122 <;> simp [h]
theorem spec_l1Word_ev (s : ByteArray) (hs : s.size ≤ 9223372036854775800) : Ev (fun k => spec_l1Word.f k s) (wordB s) := by
  unfold spec_l1Word.f
  by_cases h : (s.size : Int) > 0
  · simp only [h, if_true]
    refine Ev.bind (spec_l1Letters_ev s 12 hs) (Ev.cast (Ev.now _) ?_)
    unfold wordB
    congr 1
    exact decide_eq_decide.2 (by omega)
  · simp only [h, if_false]
    refine Ev.cast (Ev.now _) ?_
    unfold wordB
    have : decide (1 ≤ s.size ∧ s.size ≤ 12) = false := decide_eq_false (by omega)
    simp [this]
theorem impl_WordOk_ev (s : ByteArray) (hs : s.size ≤ 9223372036854775800) : Ev (fun k => impl_WordOk.f k s) (wordB s) := by
  unfold impl_WordOk.f
  simp only [within_eq, Option.bind_some]
  by_cases h : 1 ≤ s.size ∧ s.size ≤ 12
  · have h4 : decide ((1 : Int) ≤ (s.size : Int) ∧ (s.size : Int) ≤ 12) = true := decide_eq_true (by omega)
    simp only [h4, if_true]
    refine Ev.bind (impl_lower_ev s hs) (Ev.cast (Ev.now _) ?_)
    simp [wordB, h]
  · have h4 : decide ((1 : Int) ≤ (s.size : Int) ∧ (s.size : Int) ≤ 12) = false := decide_eq_false (by omega)
    simp only [h4, Bool.false_eq_true, if_false]
    refine Ev.cast (Ev.now _) ?_
    have : decide (1 ≤ s.size ∧ s.size ≤ 12) = false := decide_eq_false h
    simp [wordB, this]

/-! ### lists of patterns -/
def small (ps : List Pat) : Prop := ps.length ≤ 1048576 ∧ ∀ p ∈ ps, p.f0.size ≤ 1048576 ∧ p.f1.length ≤ 1048576
def patsB (ps : List Pat) : Bool := decide (∀ i (h : i < ps.length), patOk ps[i].f0 ps[i].f1 = true) && decide (ps.length ≤ 20)
theorem spec_l9Patterns_ev (ps : List Pat) (hs : small ps) : Ev (fun k => spec_l9Patterns.f k ps) (patsB ps) := by
  have hl := hs.1
  unfold spec_l9Patterns.f
  refine Ev.cast (all_loop (g := fun k x => spec_l9Patterns.l0 k ps x) ps.length (fun i => ∀ h : i < ps.length, patOk ps[i].f0 ps[i].f1 = true) false (decide ((ps.length : Int) ≤ 20)) ?_ ?_ ?_) ?_
  · intro i r hi hp h
    have h1 : (i : Int) < (ps.length : Int) := by omega
    have h2 : (0 : Int) ≤ (i : Int) := by omega
    have h3 : Aside0 (wrap64 ((i : Int) + 1) = (i : Int) + 1) := ⟨wid (by omega) (by omega)⟩
    have hb := hs.2 ps[i] (List.getElem_mem hi)
    apply Ev.succ
    simp only [spec_l9Patterns.l0, h1, h2, h3.out, rdP_nat ps i hi, if_true]
    refine Ev.bind (Ev.cast (spec_PatternOk_ev _ _ (by omega) (by omega)) (hp hi)) ?_
    simp only [if_true]
    exact h
  · intro i hi hp
    have h1 : (i : Int) < (ps.length : Int) := by omega
    have h2 : (0 : Int) ≤ (i : Int) := by omega
    have hb := hs.2 ps[i] (List.getElem_mem hi)
    have hf : patOk ps[i].f0 ps[i].f1 = false := by
      cases e : patOk ps[i].f0 ps[i].f1 with
      | false => rfl
      | true => exact absurd (fun _ => e) hp
    apply Ev.succ
    simp only [spec_l9Patterns.l0, h1, h2, rdP_nat ps i hi, if_true]
    refine Ev.bind (Ev.cast (spec_PatternOk_ev _ _ (by omega) (by omega)) hf) ?_
    simp only [Bool.false_eq_true, if_false]
    exact Ev.now _
  · apply Ev.succ
    simp only [spec_l9Patterns.l0, Int.lt_irrefl, if_false]
    exact Ev.now _
  · unfold patsB
    have e : decide ((ps.length : Int) ≤ 20) = decide (ps.length ≤ 20) := decide_eq_decide.2 (by omega)
    rw [e]
    by_cases h : ∀ i (h : i < ps.length), patOk ps[i].f0 ps[i].f1 = true
    · rw [if_pos (fun i hi _ => h i hi), decide_eq_true h, Bool.true_and]
    · rw [if_neg (fun h' => h (fun i hi => h' i hi hi)), decide_eq_false h, Bool.false_and]
theorem impl_patternsOk_ev (ps : List Pat) (hs : small ps) : Ev (fun k => impl_patternsOk.f k ps) (patsB ps) := by
  have hl := hs.1
  unfold impl_patternsOk.f
  refine Ev.cast (all_loop (g := fun k x => impl_patternsOk.l0 k ps ps (ps.length : Int) x) ps.length (fun i => ∀ h : i < ps.length, patOk ps[i].f0 ps[i].f1 = true) false (decide ((ps.length : Int) ≤ 20)) ?_ ?_ ?_) ?_
  · intro i r hi hp h
    have h1 : (i : Int) < (ps.length : Int) := by omega
    have h2 : (0 : Int) ≤ (i : Int) := by omega
    have h3 : Aside0 (wrap64 ((i : Int) + 1) = (i : Int) + 1) := ⟨wid (by omega) (by omega)⟩
    have hb := hs.2 ps[i] (List.getElem_mem hi)
    apply Ev.succ
    simp only [impl_patternsOk.l0, h1, h2, h3.out, rdP_nat ps i hi, if_true]
    refine Ev.bind (Ev.cast (impl_PatternOk_ev _ _ (by omega) (by omega)) (hp hi)) ?_
    simp only [if_true]
    exact h
  · intro i hi hp
    have h1 : (i : Int) < (ps.length : Int) := by omega
    have h2 : (0 : Int) ≤ (i : Int) := by omega
    have hb := hs.2 ps[i] (List.getElem_mem hi)
    have hf : patOk ps[i].f0 ps[i].f1 = false := by
      cases e : patOk ps[i].f0 ps[i].f1 with
      | false => rfl
      | true => exact absurd (fun _ => e) hp
    apply Ev.succ
    simp only [impl_patternsOk.l0, h1, h2, rdP_nat ps i hi, if_true]
    refine Ev.bind (Ev.cast (impl_PatternOk_ev _ _ (by omega) (by omega)) hf) ?_
    simp only [Bool.false_eq_true, if_false]
    exact Ev.now _
  · apply Ev.succ
    simp only [impl_patternsOk.l0, Int.lt_irrefl, if_false]
    exact Ev.now _
  · unfold patsB
    have e : decide ((ps.length : Int) ≤ 20) = decide (ps.length ≤ 20) := decide_eq_decide.2 (by omega)
    rw [e]
    by_cases h : ∀ i (h : i < ps.length), patOk ps[i].f0 ps[i].f1 = true
    · rw [if_pos (fun i hi _ => h i hi), decide_eq_true h, Bool.true_and]
    · rw [if_neg (fun h' => h (fun i hi => h' i hi hi)), decide_eq_false h, Bool.false_and]

/-! ### marks: a list of numbers as a function -/
def mk (L : Nat) (m : Nat → Int) : List Int := (List.range L).map m
theorem mk_length (L : Nat) (m : Nat → Int) : (mk L m).length = L := by simp [mk]
theorem rd_mk (L : Nat) (m : Nat → Int) (q : Nat) (h : q < L) : rd (mk L m) (q : Int) = m q := by simp [rd, mk, h]
theorem set_mk (L : Nat) (m : Nat → Int) (q : Nat) (v : Int) : (mk L m).set q v = mk L (fun x => if x = q then v else m x) := by
  refine List.ext_getElem (by simp [mk]) (fun i h1 h2 => ?_)
  simp only [mk, List.length_map, List.length_range] at h2
  rw [List.getElem_set]
  simp only [mk, List.getElem_map, List.getElem_range]
  by_cases e : q = i
  · rw [if_pos e, if_pos e.symm]
  · rw [if_neg e, if_neg (fun h => e h.symm)]
theorem mk_congr (L : Nat) (m m' : Nat → Int) (h : ∀ q, q < L → m q = m' q) : mk L m = mk L m' := by
  unfold mk
  exact List.map_congr_left (fun q hq => h q (List.mem_range.1 hq))
def up (q : Nat) (v : Int) (m : Nat → Int) : Nat → Int := fun x => if x = q then max (m x) v else m x
def appl (ns : List Int) (a : Nat) : Nat → (Nat → Int) → (Nat → Int)
  | 0, m => m
  | j + 1, m => up (a + j) (rd ns (j : Int)) (appl ns a j m)
def hit (d letters : ByteArray) (a : Nat) : Prop := a + letters.size ≤ d.size ∧ d.extract a (a + letters.size) = letters
noncomputable instance hitDec (d letters : ByteArray) (a : Nat) : Decidable (hit d letters a) := Classical.propDecidable _
noncomputable def patM (d : ByteArray) (p : Pat) : Nat → (Nat → Int) → (Nat → Int)
  | 0, m => m
  | a + 1, m => if hit d p.f0 a then appl p.f1 a p.f1.length (patM d p a m) else patM d p a m
noncomputable def patsM (d : ByteArray) (ps : List Pat) : Nat → (Nat → Int)
  | 0 => fun _ => 0
  | i + 1 => match ps[i]? with
    | some p => patM d p d.size (patsM d ps i)
    | none => patsM d ps i
theorem patM_stop (d : ByteArray) (p : Pat) (m : Nat → Int) (a : Nat) (h : d.size < a + p.f0.size) : ∀ c, patM d p (a + c) m = patM d p a m
  | 0 => rfl
  | c + 1 => by
    have : ¬ hit d p.f0 (a + c) := fun hh => by have := hh.1; omega
    show (if hit d p.f0 (a + c) then _ else patM d p (a + c) m) = _
    rw [if_neg this, patM_stop d p m a h c]
def odds (m : Nat → Int) (n : Nat) : Nat → List Int
  | 0 => []
  | c + 1 => if Int.tmod (m (c + 2)) 2 = 1 then odds m n c ++ [((c + 2 : Nat) : Int)] else odds m n c
theorem odds_length (m : Nat → Int) (n : Nat) : ∀ c, (odds m n c).length ≤ c
  | 0 => Nat.le_refl _
  | c + 1 => by
    have := odds_length m n c
    unfold odds
    split
    · simp; omega
    · omega
noncomputable def splitL (ps : List Pat) (w : ByteArray) : List Int :=
  if patsB ps = true ∧ wordB w = true then odds (fun q => patsM ((⟨#[46]⟩ : ByteArray) ++ w ++ (⟨#[46]⟩ : ByteArray)) ps ps.length (q + 1)) w.size (w.size - 3) else []

theorem spec_l2 (ps : List Pat) (d : ByteArray) (hd : d.size ≤ 1048576) (L : Nat) (hL : L = d.size + 1) (i : Nat) (hi : i < ps.length) (hil : ps.length ≤ 1048576) (hn : ps[i].f1.length = ps[i].f0.size + 1) (a : Nat) (ha : a + ps[i].f0.size ≤ d.size)
    (m : Nat → Int) (r : List Int) (h : Ev (fun k => spec_l9Marks.l1 k ps d (mk L (if hit d ps[i].f0 a then appl ps[i].f1 a ps[i].f1.length m else m)) (i : Int) (ps[i].f0.size : Int) ((a : Int) + 1)) r) :
    Ev (fun k => spec_l9Marks.l2 k ps d (mk L m) (i : Int) (ps[i].f0.size : Int) (a : Int) 0) r := by
  have e0 : (a : Int).toNat = a := by omega
  have e1 : ((a : Int) + (ps[i].f0.size : Int)).toNat = a + ps[i].f0.size := by omega
  have w1 : Aside0 (wrap64 ((a : Int) + (ps[i].f0.size : Int)) = (a : Int) + (ps[i].f0.size : Int)) := ⟨wid (by omega) (by omega)⟩
  have c1 : (0 : Int) ≤ (a : Int) := by omega
  have c2 : (a : Int) ≤ (a : Int) + (ps[i].f0.size : Int) := by omega
  have c3 : (a : Int) + (ps[i].f0.size : Int) ≤ (d.size : Int) := by omega
  have c4 : (0 : Int) ≤ (i : Int) := by omega
  have c5 : (i : Int) < (ps.length : Int) := by omega
  have w2 : Aside0 (wrap64 ((a : Int) + 1) = (a : Int) + 1) := ⟨wid (by omega) (by omega)⟩
  by_cases hh : hit d ps[i].f0 a
  · rw [if_pos hh] at h
    have hb : Aside0 (((d.extract a (a + ps[i].f0.size)).toList == ps[i].f0.toList) = true) := ⟨by rw [hh.2]; exact beq_self_eq_true _⟩
    refine fold_loop (g := fun k b x => spec_l9Marks.l2 k ps d b (i : Int) (ps[i].f0.size : Int) (a : Int) x) (ps[i].f1.length) (fun j => mk L (appl ps[i].f1 a j m)) r ?_ ?_
    · intro j hj hr
      have d1 : (j : Int) ≤ (ps[i].f0.size : Int) := by omega
      have d2 : (0 : Int) ≤ (j : Int) := by omega
      have d3 : (j : Int) < (ps[i].f1.length : Int) := by omega
      have w3 : Aside0 (wrap64 ((a : Int) + (j : Int)) = ((a + j : Nat) : Int)) := ⟨by rw [wid (by omega) (by omega)]; omega⟩
      have d4 : (0 : Int) ≤ ((a + j : Nat) : Int) := by omega
      have d5 : ((a + j : Nat) : Int) < ((mk L (appl ps[i].f1 a j m)).length : Int) := by rw [mk_length]; omega
      have w4 : Aside0 (wrap64 ((j : Int) + 1) = (j : Int) + 1) := ⟨wid (by omega) (by omega)⟩
      have e3 : ((a + j : Nat) : Int).toNat = a + j := by omega
      have hrd : rd (mk L (appl ps[i].f1 a j m)) ((a + j : Nat) : Int) = appl ps[i].f1 a j m (a + j) := rd_mk L _ (a + j) (by omega)
      apply Ev.succ
      simp only [spec_l9Marks.l2, d1, c1, w1.out, c2, c3, c4, c5, e0, e1, rdP_nat ps i hi, hb.out, if_true]
      apply Ev.succ
      simp only [spec_l9Marks.j3, c4, c5, rdP_nat ps i hi, d2, d3, w3.out, d4, d5, hrd, w4.out, e3, if_true]
      by_cases g : rd ps[i].f1 (j : Int) > appl ps[i].f1 a j m (a + j)
      · simp only [g, if_true, set_mk]
        have : mk L (fun x => if x = a + j then rd ps[i].f1 (j : Int) else appl ps[i].f1 a j m x) = mk L (appl ps[i].f1 a (j + 1) m) := by
          refine mk_congr L _ _ (fun q _ => ?_)
          show _ = up (a + j) (rd ps[i].f1 (j : Int)) (appl ps[i].f1 a j m) q
          unfold up
          by_cases e : q = a + j
          · rw [if_pos e, if_pos e, e]; omega
          · rw [if_neg e, if_neg e]
        rw [this]
        exact hr
      · simp only [g, if_false]
        have : mk L (appl ps[i].f1 a j m) = mk L (appl ps[i].f1 a (j + 1) m) := by
          refine mk_congr L _ _ (fun q _ => ?_)
          show _ = up (a + j) (rd ps[i].f1 (j : Int)) (appl ps[i].f1 a j m) q
          unfold up
          by_cases e : q = a + j
          · rw [if_pos e, e]; omega
          · rw [if_neg e]
        rw [this]
        exact hr
    · have d1 : ¬ (ps[i].f1.length : Int) ≤ (ps[i].f0.size : Int) := by omega
      apply Ev.succ
      simp only [spec_l9Marks.l2, d1, if_false]
      apply Ev.succ
      simp only [spec_l9Marks.j3, Bool.false_eq_true, if_false, w2.out]
      exact h
  · rw [if_neg hh] at h
    have hb : ((d.extract a (a + ps[i].f0.size)).toList == ps[i].f0.toList) = false := by
      rw [beq_eq_false_iff_ne]
      exact fun e => hh ⟨ha, toList_inj.1 e⟩
    have d1 : (0 : Int) ≤ (ps[i].f0.size : Int) := by omega
    apply Ev.succ
    simp only [spec_l9Marks.l2, d1, c1, w1.out, c2, c3, c4, c5, e0, e1, rdP_nat ps i hi, hb, if_true]
    apply Ev.succ
    simp only [spec_l9Marks.j3, Bool.false_eq_true, if_false, w2.out]
    exact h
theorem spec_l1 (ps : List Pat) (d : ByteArray) (hd : d.size ≤ 1048576) (L : Nat) (hL : L = d.size + 1) (i : Nat) (hi : i < ps.length) (hil : ps.length ≤ 1048576) (hz : ps[i].f0.size ≤ 1048576) (hp : 1 ≤ ps[i].f0.size) (hn : ps[i].f1.length = ps[i].f0.size + 1)
    (m : Nat → Int) (r : List Int) (h : Ev (fun k => spec_l9Marks.l0 k ps d (mk L (patM d ps[i] d.size m)) ((i : Int) + 1)) r) :
    Ev (fun k => spec_l9Marks.l1 k ps d (mk L m) (i : Int) (ps[i].f0.size : Int) 0) r := by
  have wi : Aside0 (wrap64 ((i : Int) + 1) = (i : Int) + 1) := ⟨wid (by omega) (by omega)⟩
  refine fold_loop (g := fun k b x => spec_l9Marks.l1 k ps d b (i : Int) (ps[i].f0.size : Int) x) (d.size + 1 - ps[i].f0.size) (fun a => mk L (patM d ps[i] a m)) r ?_ ?_
  · intro a ha hr
    have w1 : Aside0 (wrap64 ((a : Int) + (ps[i].f0.size : Int)) = (a : Int) + (ps[i].f0.size : Int)) := ⟨wid (by omega) (by omega)⟩
    have c3 : (a : Int) + (ps[i].f0.size : Int) ≤ (d.size : Int) := by omega
    apply Ev.succ
    simp only [spec_l9Marks.l1, w1.out, c3, if_true]
    exact spec_l2 ps d hd L hL i hi hil hn a (by omega) (patM d ps[i] a m) r hr
  · have w1 : Aside0 (wrap64 (((d.size + 1 - ps[i].f0.size : Nat) : Int) + (ps[i].f0.size : Int)) = ((d.size + 1 - ps[i].f0.size : Nat) : Int) + (ps[i].f0.size : Int)) := ⟨wid (by omega) (by omega)⟩
    have c3 : ¬ ((d.size + 1 - ps[i].f0.size : Nat) : Int) + (ps[i].f0.size : Int) ≤ (d.size : Int) := by omega
    apply Ev.succ
    simp only [spec_l9Marks.l1, w1.out, c3, if_false, wi.out]
    have : patM d ps[i] d.size m = patM d ps[i] (d.size + 1 - ps[i].f0.size) m := by
      rcases Nat.lt_or_ge d.size (d.size + 1 - ps[i].f0.size) with h1 | h1
      · omega
      · have := patM_stop d ps[i] m (d.size + 1 - ps[i].f0.size) (by omega) (d.size - (d.size + 1 - ps[i].f0.size))
        rw [← this]
        congr 1
        omega
    rw [this] at h
    exact h
theorem patsM_succ (d : ByteArray) (ps : List Pat) (i : Nat) (h : i < ps.length) : patsM d ps (i + 1) = patM d ps[i] d.size (patsM d ps i) := by
  show (match ps[i]? with | some p => patM d p d.size (patsM d ps i) | none => patsM d ps i) = _
  rw [List.getElem?_eq_getElem h]
def goodPats (ps : List Pat) : Prop := ps.length ≤ 20 ∧ ∀ i (h : i < ps.length), 1 ≤ ps[i].f0.size ∧ ps[i].f0.size ≤ 8 ∧ ps[i].f1.length = ps[i].f0.size + 1
theorem goodPats_of (ps : List Pat) (h : patsB ps = true) : goodPats ps := by
  unfold patsB at h
  rw [Bool.and_eq_true] at h
  refine ⟨of_decide_eq_true h.2, fun i hi => ?_⟩
  have := of_decide_eq_true h.1 i hi
  unfold patOk at this
  simp only [Bool.and_eq_true, decide_eq_true_eq] at this
  obtain ⟨_, _, h1, h2⟩ := this
  exact ⟨h1.1, h1.2, h2⟩
theorem spec_l9Marks_ev (ps : List Pat) (hg : goodPats ps) (d : ByteArray) (hd : d.size ≤ 1048576) : Ev (fun k => spec_l9Marks.f k ps d) (mk (d.size + 1) (patsM d ps ps.length)) := by
  have hl := hg.1
  have w1 : Aside0 (wrap64 ((d.size : Int) + 1) = (d.size : Int) + 1) := ⟨wid (by omega) (by omega)⟩
  have c1 : (0 : Int) ≤ (d.size : Int) + 1 := by omega
  have e1 : ((d.size : Int) + 1).toNat = d.size + 1 := by omega
  have c2 : d.size + 1 ≤ 35184372088832 := by omega
  unfold spec_l9Marks.f
  simp only [w1.out, c1, e1, c2, if_true]
  have z : List.replicate (d.size + 1) (0 : Int) = mk (d.size + 1) (patsM d ps 0) := by
    refine List.ext_getElem (by simp [mk]) (fun i h1 h2 => ?_)
    simp [mk, patsM]
  rw [z]
  refine fold_loop (g := fun k b x => spec_l9Marks.l0 k ps d b x) ps.length (fun i => mk (d.size + 1) (patsM d ps i)) _ ?_ ?_
  · intro i hi hr
    have c3 : (i : Int) < (ps.length : Int) := by omega
    have c4 : (0 : Int) ≤ (i : Int) := by omega
    obtain ⟨g1, g2, g3⟩ := hg.2 i hi
    apply Ev.succ
    simp only [spec_l9Marks.l0, c3, c4, rdP_nat ps i hi, if_true]
    rw [patsM_succ d ps i hi] at hr
    exact spec_l1 ps d hd _ rfl i hi (by omega) (by omega) g1 g3 _ _ hr
  · apply Ev.succ
    simp only [spec_l9Marks.l0, Int.lt_irrefl, if_false]
    exact Ev.now _

theorem dotted_size (w : ByteArray) : ((⟨#[46]⟩ : ByteArray) ++ w ++ (⟨#[46]⟩ : ByteArray)).size = w.size + 2 := by
  simp only [ByteArray.size_append]
  show 1 + w.size + 1 = _
  omega
theorem dot_size : (⟨#[46]⟩ : ByteArray).size = 1 := rfl
theorem spec_SplitAt_ev (ps : List Pat) (hs : small ps) (w : ByteArray) (hw : w.size ≤ 1048576) : Ev (fun k => spec_SplitAt.f k ps w) (splitL ps w) := by
  unfold spec_SplitAt.f
  refine Ev.bind (spec_l9Patterns_ev ps hs) ?_
  cases hp : patsB ps with
  | false =>
    simp only [Bool.false_eq_true, if_false]
    refine Ev.cast (Ev.now _) ?_
    simp [splitL, hp]
  | true =>
    simp only [if_true]
    refine Ev.bind (spec_l1Word_ev w (by omega)) ?_
    cases hww : wordB w with
    | false =>
      simp only [Bool.false_eq_true, if_false]
      refine Ev.cast (Ev.now _) ?_
      simp [splitL, hww]
    | true =>
      simp only [if_true]
      have hw12 : w.size ≤ 12 := by
        have z := hww
        simp only [wordB, Bool.and_eq_true, decide_eq_true_eq] at z
        omega
      refine Ev.bind (a := splitL ps w) ?_ (Ev.now _)
      unfold spec_l9At.f
      have b1 : 1 + w.size ≤ 9223372036854775807 := by omega
      have b2 : ((⟨#[46]⟩ : ByteArray) ++ w).size + 1 ≤ 9223372036854775807 := by rw [ByteArray.size_append, dot_size]; omega
      simp only [b1, b2, if_true]
      refine Ev.bind (spec_l9Marks_ev ps (goodPats_of ps hp) _ (by rw [dotted_size]; omega)) ?_
      have hsp : splitL ps w = odds (fun q => patsM ((⟨#[46]⟩ : ByteArray) ++ w ++ (⟨#[46]⟩ : ByteArray)) ps ps.length (q + 1)) w.size (w.size - 3) := by simp [splitL, hp, hww]
      rw [hsp]
      generalize hM : patsM ((⟨#[46]⟩ : ByteArray) ++ w ++ (⟨#[46]⟩ : ByteArray)) ps ps.length = M
      rw [dotted_size]
      have h64 : Aside0 (wrap64 ((w.size : Int) - 2) = (w.size : Int) - 2) := ⟨wid (by omega) (by omega)⟩
      refine (fold_loop (g := fun k b x => spec_l9At.l0 k w b (mk (w.size + 2 + 1) M) (x + 2)) (w.size - 3) (fun c => odds (fun q => M (q + 1)) w.size c) _ ?_ ?_ : Ev (fun k => spec_l9At.l0 k w _ _ (0 + 2)) _)
      · intro c hc hr
        have c1 : (c : Int) + 2 ≤ (w.size : Int) - 2 := by omega
        have w1 : Aside0 (wrap64 ((c : Int) + 2 + 1) = ((c + 3 : Nat) : Int)) := ⟨by rw [wid (by omega) (by omega)]; omega⟩
        have c2 : (0 : Int) ≤ ((c + 3 : Nat) : Int) := by omega
        have c3 : ((c + 3 : Nat) : Int) < ((mk (w.size + 2 + 1) M).length : Int) := by rw [mk_length]; omega
        have c4 : rd (mk (w.size + 2 + 1) M) ((c + 3 : Nat) : Int) = M (c + 3) := rd_mk _ _ _ (by omega)
        have c5 : (odds (fun q => M (q + 1)) w.size c).length < 17592186044416 := by have := odds_length (fun q => M (q + 1)) w.size c; omega
        have e2 : ((c : Int) + 2) = ((c + 2 : Nat) : Int) := by omega
        have e3 : ((c + 3 : Nat) : Int) = (c : Int) + 1 + 2 := by omega
        apply Ev.succ
        simp only [spec_l9At.l0, h64.out, c1, w1.out, c2, c3, c4, c5, if_true]
        by_cases t : Int.tmod (M (c + 3)) 2 = 1
        · simp only [t, if_true]
          have : odds (fun q => M (q + 1)) w.size (c + 1) = odds (fun q => M (q + 1)) w.size c ++ [((c + 2 : Nat) : Int)] := by
            show (if Int.tmod (M (c + 2 + 1)) 2 = 1 then _ else _) = _
            rw [if_pos t]
          simp only [this] at hr
          rw [e3, e2]
          exact hr
        · simp only [t, if_false]
          have : odds (fun q => M (q + 1)) w.size (c + 1) = odds (fun q => M (q + 1)) w.size c := by
            show (if Int.tmod (M (c + 2 + 1)) 2 = 1 then _ else _) = _
            rw [if_neg t]
          simp only [this] at hr
          rw [e3]
          exact hr
      · have c1 : ¬ ((w.size - 3 : Nat) : Int) + 2 ≤ (w.size : Int) - 2 := by omega
        apply Ev.succ
        simp only [spec_l9At.l0, h64.out, c1, if_false]
        exact Ev.now _
end Go.Proofs.Ytndjhgjakdkkaaa.M
end

section
/- SplitAt of the program: the same list. SplitText in both. -/
namespace Go.Proofs.Ytndjhgjakdkkaaa.M
open Go.RowKit Go.Proofs.YtndjhgjakdkkaaaW.PrintWords Go.Proofs.Ytndjhgjakdkkaaa.Pu
set_option linter.unusedVariables false
set_option linter.unusedSimpArgs false

theorem hasPrefix_eq (d letters : ByteArray) (a : Nat) (ha : a ≤ d.size) : strings_HasPrefix.f (d.extract a d.size) letters = some (decide (hit d letters a)) := by
  have hsz : (d.extract a d.size).size = d.size - a := by rw [ByteArray.size_extract]; omega
  unfold strings_HasPrefix.f stringslite_HasPrefix.f
  rw [hsz]
  by_cases h : letters.size ≤ d.size - a
  · have c1 : ((d.size - a : Nat) : Int) ≥ (letters.size : Int) := by omega
    have c2 : (0 : Int) ≤ (letters.size : Int) := by omega
    have c3 : (letters.size : Int) ≤ ((d.size - a : Nat) : Int) := by omega
    have e1 : ((letters.size : Int)).toNat = letters.size := by omega
    simp only [c1, c2, c3, e1, if_true, Option.bind_some]
    congr 1
    have e2 : (d.extract a d.size).extract 0 letters.size = d.extract a (a + letters.size) := by
      rw [ByteArray.extract_extract]
      congr 1
      omega
    rw [e2]
    by_cases hh : d.extract a (a + letters.size) = letters
    · rw [hh, beq_self_eq_true]
      exact (decide_eq_true ⟨by omega, hh⟩).symm
    · have : ((d.extract a (a + letters.size)).toList == letters.toList) = false := by
        rw [beq_eq_false_iff_ne]
        exact fun e => hh (toList_inj.1 e)
      rw [this]
      exact (decide_eq_false (fun e => hh e.2)).symm
  · have c1 : ¬ ((d.size - a : Nat) : Int) ≥ (letters.size : Int) := by omega
    simp only [c1, if_false, Option.bind_some]
    congr 1
    exact (decide_eq_false (fun e => h (by have := e.1; omega))).symm
theorem mx_eq (a b : Int) : mx a b = max a b := by unfold mx; omega
/-- One match, number by number, at the program's own places (one less). -/
theorem impl_l2 (w : ByteArray) (hw : w.size ≤ 1048576) (o : List Int) (d : ByteArray) (hd : d.size = w.size + 2) (ps : List Pat) (n i : Int) (letters : ByteArray) (ns : List Int) (hns : ns.length ≤ 9) (a : Nat) (ha : a ≤ d.size)
    (m : Nat → Int) (r : List Int) (h : Ev (fun k => impl_SplitAt.l1 k w o (mk (w.size + 1) (fun q => appl ns a ns.length m (q + 1))) d ps n i (d.size : Int) ((a : Int) + 1) letters ns) r) :
    Ev (fun k => impl_SplitAt.l2 k w o (mk (w.size + 1) (fun q => m (q + 1))) d (a : Int) ps n i (d.size : Int) (a : Int) ns (ns.length : Int) 0 letters ns) r := by
  have w2 : Aside0 (wrap64 ((a : Int) + 1) = (a : Int) + 1) := ⟨wid (by omega) (by omega)⟩
  refine fold_loop (g := fun k b x => impl_SplitAt.l2 k w o b d (a : Int) ps n i (d.size : Int) (a : Int) ns (ns.length : Int) x letters ns) ns.length (fun j => mk (w.size + 1) (fun q => appl ns a j m (q + 1))) r ?_ ?_
  · intro j hj hr
    have c1 : (j : Int) < (ns.length : Int) := by omega
    have c2 : (0 : Int) ≤ (j : Int) := by omega
    have w1 : Aside0 (wrap64 ((a : Int) + (j : Int)) = (a : Int) + (j : Int)) := ⟨wid (by omega) (by omega)⟩
    have w3 : Aside0 (wrap64 ((a : Int) + (j : Int) - 1) = (a : Int) + (j : Int) - 1) := ⟨wid (by omega) (by omega)⟩
    have w4 : Aside0 (wrap64 ((j : Int) + 1) = (j : Int) + 1) := ⟨wid (by omega) (by omega)⟩
    apply Ev.succ
    by_cases g : 1 ≤ a + j ∧ a + j ≤ w.size + 1
    · have g1 : decide ((0 : Int) ≤ (a : Int) + (j : Int) - 1 ∧ (a : Int) + (j : Int) - 1 ≤ (w.size : Int)) = true := decide_eq_true (by omega)
      obtain ⟨q, hq⟩ : ∃ q, a + j = q + 1 := ⟨a + j - 1, by omega⟩
      have e1 : (a : Int) + (j : Int) - 1 = (q : Int) := by omega
      have c3 : (0 : Int) ≤ (q : Int) := by omega
      have c4 : (q : Int) < ((mk (w.size + 1) (fun q => appl ns a j m (q + 1))).length : Int) := by rw [mk_length]; omega
      have e2 : ((q : Int)).toNat = q := by omega
      have hrd : rd (mk (w.size + 1) (fun q => appl ns a j m (q + 1))) (q : Int) = appl ns a j m (q + 1) := rd_mk _ _ q (by omega)
      have w3' : Aside0 (wrap64 (q : Int) = (q : Int)) := ⟨by have z := w3.out; rwa [e1] at z⟩
      have c5 : (q : Int) ≤ (w.size : Int) := by omega
      simp only [impl_SplitAt.l2, c1, c2, w1.out, e1, w3'.out, w4.out, within_eq, c5, and_self, decide_true, Option.bind_some, c3, c4, e2, hrd, mx_eq, set_mk, if_true]
      have : mk (w.size + 1) (fun x => if x = q then max (appl ns a j m (q + 1)) (rd ns (j : Int)) else appl ns a j m (x + 1)) = mk (w.size + 1) (fun q => appl ns a (j + 1) m (q + 1)) := by
        refine mk_congr _ _ _ (fun x _ => ?_)
        show _ = up (a + j) (rd ns (j : Int)) (appl ns a j m) (x + 1)
        unfold up
        by_cases e : x = q
        · subst e
          rw [if_pos rfl, if_pos (by omega)]
        · rw [if_neg e, if_neg (by omega)]
      rw [this]
      exact hr
    · have g1 : decide ((0 : Int) ≤ (a : Int) + (j : Int) - 1 ∧ (a : Int) + (j : Int) - 1 ≤ (w.size : Int)) = false := decide_eq_false (by omega)
      simp only [impl_SplitAt.l2, c1, c2, w1.out, w3.out, w4.out, within_eq, g1, Option.bind_some, if_true, Bool.false_eq_true, if_false]
      have : mk (w.size + 1) (fun q => appl ns a j m (q + 1)) = mk (w.size + 1) (fun q => appl ns a (j + 1) m (q + 1)) := by
        refine mk_congr _ _ _ (fun x hx => ?_)
        show _ = up (a + j) (rd ns (j : Int)) (appl ns a j m) (x + 1)
        unfold up
        rw [if_neg (by omega)]
      rw [this]
      exact hr
  · apply Ev.succ
    simp only [impl_SplitAt.l2, Int.lt_irrefl, if_false, w2.out]
    exact h
theorem impl_l1 (w : ByteArray) (hw : w.size ≤ 1048576) (o : List Int) (d : ByteArray) (hd : d.size = w.size + 2) (ps : List Pat) (n : Int) (i : Nat) (hi : i ≤ 1048576) (p : Pat) (hns : p.f1.length ≤ 9)
    (m : Nat → Int) (r : List Int) (h : Ev (fun k => impl_SplitAt.l0 k w o (mk (w.size + 1) (fun q => patM d p d.size m (q + 1))) d ps n ((i : Int) + 1)) r) :
    Ev (fun k => impl_SplitAt.l1 k w o (mk (w.size + 1) (fun q => m (q + 1))) d ps n (i : Int) (d.size : Int) 0 p.f0 p.f1) r := by
  have wi : Aside0 (wrap64 ((i : Int) + 1) = (i : Int) + 1) := ⟨wid (by omega) (by omega)⟩
  refine fold_loop (g := fun k b x => impl_SplitAt.l1 k w o b d ps n (i : Int) (d.size : Int) x p.f0 p.f1) d.size (fun a => mk (w.size + 1) (fun q => patM d p a m (q + 1))) r ?_ ?_
  · intro a ha hr
    have c1 : (a : Int) < (d.size : Int) := by omega
    have c2 : (0 : Int) ≤ (a : Int) := by omega
    have c3 : (a : Int) ≤ (d.size : Int) := by omega
    have e1 : ((a : Int)).toNat = a := by omega
    have w1 : Aside0 (wrap64 ((a : Int) + 1) = (a : Int) + 1) := ⟨wid (by omega) (by omega)⟩
    apply Ev.succ
    by_cases hh : hit d p.f0 a
    · have : patM d p (a + 1) m = appl p.f1 a p.f1.length (patM d p a m) := if_pos hh
      simp only [this] at hr
      simp only [impl_SplitAt.l1, c1, c2, c3, e1, hasPrefix_eq d p.f0 a (by omega), Option.bind_some, hh, decide_true, if_true]
      exact impl_l2 w hw o d hd ps n (i : Int) p.f0 p.f1 hns a (by omega) _ r hr
    · have : patM d p (a + 1) m = patM d p a m := if_neg hh
      simp only [this] at hr
      simp only [impl_SplitAt.l1, c1, c2, c3, e1, w1.out, hasPrefix_eq d p.f0 a (by omega), Option.bind_some, hh, decide_false, if_true, Bool.false_eq_true, if_false]
      exact hr
  · apply Ev.succ
    simp only [impl_SplitAt.l1, Int.lt_irrefl, if_false, wi.out]
    exact h
theorem impl_SplitAt_ev (ps : List Pat) (hs : small ps) (w : ByteArray) (hw : w.size ≤ 1048576) : Ev (fun k => impl_SplitAt.f k ps w) (splitL ps w) := by
  unfold impl_SplitAt.f
  simp only [Option.bind_some]
  refine Ev.bind (impl_patternsOk_ev ps hs) ?_
  cases hp : patsB ps with
  | false =>
    simp only [Bool.false_eq_true, if_false]
    apply Ev.succ
    simp only [impl_SplitAt.j0, if_true]
    refine Ev.cast (Ev.now _) ?_
    simp [splitL, hp]
  | true =>
    simp only [if_true]
    refine Ev.bind (impl_WordOk_ev w (by omega)) ?_
    cases hww : wordB w with
    | false =>
      apply Ev.succ
      simp only [impl_SplitAt.j0, Bool.not_false, if_true]
      refine Ev.cast (Ev.now _) ?_
      simp [splitL, hww]
    | true =>
      have hg := goodPats_of ps hp
      have hl := hg.1
      have w1 : Aside0 (wrap64 ((w.size : Int) + 1) = (w.size : Int) + 1) := ⟨wid (by omega) (by omega)⟩
      have c1 : (0 : Int) ≤ (w.size : Int) + 1 := by omega
      have e1 : ((w.size : Int) + 1).toNat = w.size + 1 := by omega
      have c2 : w.size + 1 ≤ 35184372088832 := by omega
      have b1 : 1 + w.size ≤ 9223372036854775807 := by omega
      have b2 : ((⟨#[46]⟩ : ByteArray) ++ w).size + 1 ≤ 9223372036854775807 := by rw [ByteArray.size_append, dot_size]; omega
      have h64 : Aside0 (wrap64 ((w.size : Int) - 2) = (w.size : Int) - 2) := ⟨wid (by omega) (by omega)⟩
      have hsp : splitL ps w = odds (fun q => patsM ((⟨#[46]⟩ : ByteArray) ++ w ++ (⟨#[46]⟩ : ByteArray)) ps ps.length (q + 1)) w.size (w.size - 3) := by simp [splitL, hp, hww]
      rw [hsp]
      have hd := dotted_size w
      generalize hD : ((⟨#[46]⟩ : ByteArray) ++ w ++ (⟨#[46]⟩ : ByteArray)) = d at hd
      apply Ev.succ
      simp only [impl_SplitAt.j0, Bool.not_true, Bool.false_eq_true, if_false, w1.out, c1, e1, c2, b1, b2, hD, if_true]
      have z : List.replicate (w.size + 1) (0 : Int) = mk (w.size + 1) (fun q => patsM d ps 0 (q + 1)) := by
        refine List.ext_getElem (by simp [mk]) (fun i h1 h2 => ?_)
        simp [mk, patsM]
      rw [z]
      refine fold_loop (g := fun k b x => impl_SplitAt.l0 k w ([] : List Int) b d ps (ps.length : Int) x) ps.length (fun i => mk (w.size + 1) (fun q => patsM d ps i (q + 1))) _ ?_ ?_
      · intro i hi hr
        have c3 : (i : Int) < (ps.length : Int) := by omega
        have c4 : (0 : Int) ≤ (i : Int) := by omega
        obtain ⟨g1, g2, g3⟩ := hg.2 i hi
        apply Ev.succ
        simp only [impl_SplitAt.l0, c3, c4, rdP_nat ps i hi, if_true]
        simp only [patsM_succ d ps i hi] at hr
        exact impl_l1 w hw [] d hd ps (ps.length : Int) i (by omega) ps[i] (by omega) _ _ hr
      · apply Ev.succ
        simp only [impl_SplitAt.l0, Int.lt_irrefl, if_false]
        generalize patsM d ps ps.length = M
        refine (fold_loop (g := fun k b x => impl_SplitAt.l3 k w b (mk (w.size + 1) (fun q => M (q + 1))) (x + 2)) (w.size - 3) (fun c => odds (fun q => M (q + 1)) w.size c) _ ?_ ?_ : Ev (fun k => impl_SplitAt.l3 k w _ _ (0 + 2)) _)
        · intro c hc hr
          have c1 : (c : Int) + 2 ≤ (w.size : Int) - 2 := by omega
          have e2 : ((c : Int) + 2) = ((c + 2 : Nat) : Int) := by omega
          have c2 : (0 : Int) ≤ (c : Int) + 2 := by omega
          have c3 : (c : Int) + 2 < ((mk (w.size + 1) (fun q => M (q + 1))).length : Int) := by rw [mk_length]; omega
          have c4 : rd (mk (w.size + 1) (fun q => M (q + 1))) ((c : Int) + 2) = M (c + 3) := by rw [e2]; exact rd_mk _ _ _ (by omega)
          have c5 : (odds (fun q => M (q + 1)) w.size c).length < 17592186044416 := by have := odds_length (fun q => M (q + 1)) w.size c; omega
          have w3 : Aside0 (wrap64 ((c : Int) + 2 + 1) = (c : Int) + 1 + 2) := ⟨by rw [wid (by omega) (by omega)]; omega⟩
          apply Ev.succ
          simp only [impl_SplitAt.l3, h64.out, c1, c2, c3, c4, c5, w3.out, if_true]
          by_cases t : Int.tmod (M (c + 3)) 2 = 1
          · simp only [t, if_true]
            have : odds (fun q => M (q + 1)) w.size (c + 1) = odds (fun q => M (q + 1)) w.size c ++ [((c + 2 : Nat) : Int)] := by
              show (if Int.tmod (M (c + 2 + 1)) 2 = 1 then _ else _) = _
              rw [if_pos t]
            simp only [this] at hr
            rw [e2]
            exact hr
          · simp only [t, if_false]
            have : odds (fun q => M (q + 1)) w.size (c + 1) = odds (fun q => M (q + 1)) w.size c := by
              show (if Int.tmod (M (c + 2 + 1)) 2 = 1 then _ else _) = _
              rw [if_neg t]
            simp only [this] at hr
            exact hr
        · have c1 : ¬ ((w.size - 3 : Nat) : Int) + 2 ≤ (w.size : Int) - 2 := by omega
          apply Ev.succ
          simp only [impl_SplitAt.l3, h64.out, c1, if_false]
          exact Ev.now _
end Go.Proofs.Ytndjhgjakdkkaaa.M
end

section
/- SplitText of the program is that of the reference. -/
namespace Go.Proofs.Ytndjhgjakdkkaaa.M
open Go.RowKit Go.Proofs.YtndjhgjakdkkaaaW.PrintWords Go.Proofs.Ytndjhgjakdkkaaa.Pu
set_option linter.unusedVariables false
set_option linter.unusedSimpArgs false

abbrev dash : ByteArray := ⟨#[45]⟩
/-- The word from 'from' on, with a dash at each place. -/
def cutT (w : ByteArray) : Nat → List Int → ByteArray
  | a, [] => w.extract a w.size
  | a, p :: ps => w.extract a p.toNat ++ dash ++ cutT w p.toNat ps
/-- The places ascend, from 'a' on, and lie in the word. -/
def placesFrom (n : Nat) : Nat → List Int → Prop
  | _, [] => True
  | a, p :: ps => (a : Int) ≤ p ∧ p ≤ n ∧ placesFrom n p.toNat ps
theorem placesFrom_le {n : Nat} : ∀ {a b : Nat} {ps : List Int}, placesFrom n a ps → b ≤ a → placesFrom n b ps
  | _, _, [], _, _ => trivial
  | _, _, _ :: _, h, hb => ⟨by have := h.1; omega, h.2.1, h.2.2⟩
theorem placesFrom_snoc {n : Nat} : ∀ {a : Nat} {ps : List Int} {q : Int}, placesFrom n a ps → (∀ p ∈ ps, p ≤ q) → (a : Int) ≤ q → q ≤ n → placesFrom n a (ps ++ [q])
  | _, [], _, _, _, ha, hq => ⟨ha, hq, trivial⟩
  | _, p :: ps, q, h, hp, ha, hq => ⟨h.1, h.2.1, placesFrom_snoc h.2.2 (fun x hx => hp x (List.mem_cons_of_mem _ hx)) (by have := h.1; have := hp p List.mem_cons_self; omega) hq⟩
theorem odds_lt (m : Nat → Int) (n : Nat) : ∀ c, ∀ p ∈ odds m n c, p < ((c + 2 : Nat) : Int) ∧ 2 ≤ p
  | 0, p, h => by simp [odds] at h
  | c + 1, p, h => by
    unfold odds at h
    split at h
    · rcases List.mem_append.1 h with h | h
      · have := odds_lt m n c p h; omega
      · have := List.mem_singleton.1 h; omega
    · have := odds_lt m n c p h; omega
theorem odds_places (m : Nat → Int) (n N : Nat) : ∀ c, c + 1 ≤ N ∨ c = 0 → placesFrom N 0 (odds m n c)
  | 0, _ => trivial
  | c + 1, h => by
    have ih := odds_places m n N c (by omega)
    unfold odds
    split
    · exact placesFrom_snoc ih (fun p hp => by have := odds_lt m n c p hp; omega) (by omega) (by omega)
    · exact ih
theorem splitL_places (ps : List Pat) (w : ByteArray) : placesFrom w.size 0 (splitL ps w) := by
  unfold splitL
  split
  · exact odds_places _ _ _ _ (by omega)
  · trivial
theorem splitL_length (ps : List Pat) (w : ByteArray) : (splitL ps w).length ≤ w.size := by
  unfold splitL
  split
  · have := odds_length (fun q => patsM ((⟨#[46]⟩ : ByteArray) ++ w ++ (⟨#[46]⟩ : ByteArray)) ps ps.length (q + 1)) w.size (w.size - 3)
    omega
  · simp
theorem cutT_size (w : ByteArray) : ∀ (ps : List Int) (a : Nat), a ≤ w.size → placesFrom w.size a ps → (cutT w a ps).size = w.size - a + ps.length
  | [], a, _, _ => by simp [cutT, ByteArray.size_extract]
  | p :: ps, a, ha, h => by
    have h1 := h.1
    have h2 := h.2.1
    have ih := cutT_size w ps p.toNat (by omega) h.2.2
    simp only [cutT, ByteArray.size_append, ByteArray.size_extract, ih, List.length_cons]
    show min p.toNat w.size - a + 1 + _ = _
    omega
theorem cutT_split (w : ByteArray) : ∀ (ps : List Int) (a b : Nat), a ≤ b → b ≤ w.size → placesFrom w.size b ps → cutT w a ps = w.extract a b ++ cutT w b ps
  | [], a, b, h1, h2, _ => by
    show w.extract a w.size = w.extract a b ++ w.extract b w.size
    exact ByteArray.extract_eq_extract_append_extract b h1 h2
  | p :: ps, a, b, h1, h2, h => by
    have g1 := h.1
    have g2 := h.2.1
    show w.extract a p.toNat ++ dash ++ cutT w p.toNat ps = w.extract a b ++ (w.extract b p.toNat ++ dash ++ cutT w p.toNat ps)
    rw [ByteArray.extract_eq_extract_append_extract (a := w) (i := a) (k := p.toNat) b h1 (by omega)]
    simp only [ByteArray.append_assoc]
theorem dash_size : dash.size = 1 := rfl
theorem spec_text_loop (w : ByteArray) (hw : w.size ≤ 1048576) (all : List Int) (hall : all.length ≤ 1048576) : ∀ (ps : List Int) (i a : Nat) (out : ByteArray), all.drop i = ps → i + ps.length = all.length → a ≤ w.size → placesFrom w.size a ps → out.size ≤ a + i →
    Ev (fun k => spec_SplitText.l0 k w all out (a : Int) (i : Int)) (out ++ cutT w a ps)
  | [], i, a, out, hd, hl, ha, _, ho => by
    have c1 : ¬ (i : Int) < (all.length : Int) := by simp at hl; omega
    have c2 : (0 : Int) ≤ (a : Int) := by omega
    have c3 : (a : Int) ≤ (w.size : Int) := by omega
    have e1 : ((a : Int)).toNat = a := by omega
    have c4 : out.size + (w.extract a w.size).size ≤ 9223372036854775807 := by rw [ByteArray.size_extract]; omega
    apply Ev.succ
    simp only [spec_SplitText.l0, c1, c2, c3, e1, c4, if_true, if_false]
    exact Ev.now _
  | p :: ps, i, a, out, hd, hl, ha, hp, ho => by
    have hlen : i < all.length := by simp at hl; omega
    have hget : all[i] = p := by
      have := List.getElem_drop (xs := all) (i := i) (j := 0) (h := by rw [hd]; simp)
      simp only [hd, List.getElem_cons_zero, Nat.add_zero] at this
      exact this.symm
    have hr : rd all (i : Int) = p := by simp [rd, hlen, hget]
    have g1 := hp.1
    have g2 := hp.2.1
    have c1 : (i : Int) < (all.length : Int) := by omega
    have c2 : (0 : Int) ≤ (i : Int) := by omega
    have c3 : (0 : Int) ≤ (a : Int) := by omega
    have e1 : ((a : Int)).toNat = a := by omega
    have w1 : Aside0 (wrap64 ((i : Int) + 1) = ((i + 1 : Nat) : Int)) := ⟨by rw [wid (by omega) (by omega)]; omega⟩
    have c4 : out.size + (w.extract a p.toNat).size ≤ 9223372036854775807 := by rw [ByteArray.size_extract]; omega
    have c5 : (out ++ w.extract a p.toNat).size + 1 ≤ 9223372036854775807 := by rw [ByteArray.size_append, ByteArray.size_extract]; omega
    have hd' : all.drop (i + 1) = ps := by rw [← List.drop_drop, hd]; rfl
    have ep : ((p.toNat : Nat) : Int) = p := by omega
    apply Ev.succ
    simp only [spec_SplitText.l0, c1, c2, c3, hr, g1, g2, e1, c4, c5, w1.out, if_true]
    have hs2 : (out ++ w.extract a p.toNat ++ dash).size ≤ p.toNat + (i + 1) := by
      rw [ByteArray.size_append, ByteArray.size_append, ByteArray.size_extract, dash_size]
      omega
    have ih := spec_text_loop w hw all hall ps (i + 1) p.toNat (out ++ w.extract a p.toNat ++ dash) hd' (by simp at hl; omega) (by omega) hp.2.2 hs2
    rw [ep] at ih
    refine Ev.cast ih ?_
    simp only [cutT, ByteArray.append_assoc]
theorem placesFrom_drop {n : Nat} : ∀ {all : List Int} {a i : Nat} {p : Int} {ps : List Int}, placesFrom n a all → all.drop i = p :: ps → placesFrom n p.toNat ps ∧ (a : Int) ≤ p ∧ p ≤ n
  | [], _, _, _, _, _, hd => by simp at hd
  | q :: qs, a, 0, p, ps, h, hd => by
    simp only [List.drop_zero, List.cons.injEq] at hd
    obtain ⟨rfl, rfl⟩ := hd
    exact ⟨h.2.2, h.1, h.2.1⟩
  | q :: qs, a, i + 1, p, ps, h, hd => by
    rw [List.drop_succ_cons] at hd
    have ih := placesFrom_drop h.2.2 hd
    exact ⟨ih.1, by have := ih.2.1; have := h.1; omega, ih.2.2⟩
theorem impl_text_loop (w : ByteArray) (hw : w.size ≤ 1048576) (all : List Int) (hall : all.length ≤ 1048576) (hp : placesFrom w.size 0 all) : ∀ i : Nat, i ≤ all.length →
    Ev (fun k => impl_SplitText.l0 k (cutT w 0 (all.drop i)) all ((i : Int) - 1)) (cutT w 0 all)
  | 0, _ => by
    have c1 : ¬ ((0 : Nat) : Int) - 1 ≥ 0 := by omega
    apply Ev.succ
    simp only [impl_SplitText.l0, c1, if_false, List.drop_zero]
    exact Ev.now _
  | i + 1, hi => by
    have hlen : i < all.length := by omega
    have hd : all.drop i = all[i] :: all.drop (i + 1) := List.drop_eq_getElem_cons hlen
    generalize hP : all[i] = p at hd
    generalize hR : all.drop (i + 1) = ps at hd ⊢
    obtain ⟨g1, g2, g3⟩ := placesFrom_drop hp hd
    have hr : rd all (i : Int) = p := by simp [rd, hlen, hP]
    have e0 : ((i + 1 : Nat) : Int) - 1 = (i : Int) := by omega
    have c1 : (i : Int) ≥ 0 := by omega
    have c2 : (0 : Int) ≤ (i : Int) := by omega
    have c3 : (i : Int) < (all.length : Int) := by omega
    have c4 : (0 : Int) ≤ p := by omega
    have hsz : (cutT w 0 ps).size = w.size - 0 + ps.length := cutT_size w ps 0 (by omega) (placesFrom_le g1 (by omega))
    have hpl : ps.length ≤ all.length := by rw [← hR, List.length_drop]; omega
    have c5 : p ≤ ((cutT w 0 ps).size : Int) := by omega
    have hsp : cutT w 0 ps = w.extract 0 p.toNat ++ cutT w p.toNat ps := cutT_split w ps 0 p.toNat (by omega) (by omega) g1
    have hl : (w.extract 0 p.toNat).size = p.toNat := by rw [ByteArray.size_extract]; omega
    have x1 : (cutT w 0 ps).extract 0 p.toNat = w.extract 0 p.toNat := by rw [hsp]; exact ByteArray.extract_append_eq_left hl.symm
    have x2 : (cutT w 0 ps).extract p.toNat (cutT w 0 ps).size = cutT w p.toNat ps := by
      conv => lhs; rw [hsp]
      exact ByteArray.extract_append_eq_right hl.symm (by rw [ByteArray.size_append])
    have hz2 : (cutT w p.toNat ps).size ≤ (cutT w 0 ps).size := by rw [hsp, ByteArray.size_append]; omega
    have c6 : (w.extract 0 p.toNat).size + 1 ≤ 9223372036854775807 := by omega
    have c7 : (w.extract 0 p.toNat ++ dash).size + (cutT w p.toNat ps).size ≤ 9223372036854775807 := by rw [ByteArray.size_append, dash_size]; omega
    have w1 : Aside0 (wrap64 ((i : Int) - 1) = (i : Int) - 1) := ⟨wid (by omega) (by omega)⟩
    rw [e0]
    apply Ev.succ
    simp only [impl_SplitText.l0, c1, c2, c3, hr, c4, c5, x1, x2, c6, c7, w1.out, if_true]
    have ih := impl_text_loop w hw all hall hp i (by omega)
    rw [hd] at ih
    exact ih
noncomputable def splitTextB (ps : List Pat) (w : ByteArray) : ByteArray := cutT w 0 (splitL ps w)
theorem spec_SplitText_ev (ps : List Pat) (hs : small ps) (w : ByteArray) (hw : w.size ≤ 1048576) : Ev (fun k => spec_SplitText.f k ps w) (splitTextB ps w) := by
  unfold spec_SplitText.f
  refine Ev.bind (spec_SplitAt_ev ps hs w hw) ?_
  have hl := splitL_length ps w
  refine Ev.cast (spec_text_loop w hw (splitL ps w) (by omega) (splitL ps w) 0 0 (⟨#[]⟩ : ByteArray) rfl (by omega) (by omega) (splitL_places ps w) (by show 0 ≤ _; omega)) ?_
  exact ByteArray.empty_append
theorem impl_SplitText_ev (ps : List Pat) (hs : small ps) (w : ByteArray) (hw : w.size ≤ 1048576) : Ev (fun k => impl_SplitText.f k ps w) (splitTextB ps w) := by
  unfold impl_SplitText.f
  refine Ev.bind (impl_SplitAt_ev ps hs w hw) ?_
  have hl := splitL_length ps w
  have w1 : Aside0 (wrap64 (((splitL ps w).length : Int) - 1) = ((splitL ps w).length : Int) - 1) := ⟨wid (by omega) (by omega)⟩
  rw [w1.out]
  have h := impl_text_loop w hw (splitL ps w) (by omega) (splitL_places ps w) (splitL ps w).length (Nat.le_refl _)
  rw [List.drop_length] at h
  refine Ev.cast (r := cutT w 0 (splitL ps w)) ?_ rfl
  have e : cutT w 0 [] = w := ByteArray.extract_zero_size
  rw [e] at h
  exact h

/-! ### copies, comparisons and the measure of lists of patterns -/
def conv (p : LPat) : Pat := ⟨p.f0, p.f1⟩
theorem toPatternS_ev (ps : List LPat) (hs : ps.length ≤ 1048576 ∧ ∀ p ∈ ps, p.f0.size ≤ 1048576 ∧ p.f1.length ≤ 1048576) : Ev (fun k => laws_toPatternS.f k ps) (ps.map conv) := by
  have hl := hs.1
  unfold laws_toPatternS.f
  have h1 : (0 : Int) ≤ (ps.length : Int) := by omega
  have h2 : ((ps.length : Int)).toNat = ps.length := by omega
  have h3 : ps.length ≤ 7036874417766 := by omega
  simp only [h1, h2, h3, if_true]
  have hz : List.replicate ps.length z27 = (ps.take 0).map conv ++ List.replicate (ps.length - 0) z27 := by simp
  rw [hz]
  refine fold_loop (g := fun k ys x => laws_toPatternS.l0 k ps ys x) ps.length (fun i => (ps.take i).map conv ++ List.replicate (ps.length - i) z27) _ ?_ ?_
  · intro i hi hr
    have c1 : (i : Int) < (ps.length : Int) := by omega
    have c2 : (0 : Int) ≤ (i : Int) := by omega
    have c3 : Aside0 (wrap64 ((i : Int) + 1) = (i : Int) + 1) := ⟨wid (by omega) (by omega)⟩
    have c4 : (i : Int) < (((ps.take i).map conv ++ List.replicate (ps.length - i) z27).length : Int) := by simp; omega
    have c5 : ((i : Int)).toNat = i := by omega
    have hb := hs.2 ps[i] (List.getElem_mem hi)
    apply Ev.succ
    simp only [laws_toPatternS.l0, c1, c2, rdLP_nat ps i hi, if_true]
    refine Ev.bind (toPattern_ev _ _ (by omega)) ?_
    simp only [c3.out, c4, c5, if_true]
    have := copy_set conv ps z27 i hi
    rw [show (⟨ps[i].f0, ps[i].f1⟩ : Pat) = conv ps[i] from rfl, this]
    exact hr
  · apply Ev.succ
    simp only [laws_toPatternS.l0, Int.lt_irrefl, if_false]
    refine Ev.cast (Ev.now _) ?_
    simp
theorem eqPatternS_refl (ps : List Pat) (hs : small ps) : Ev (fun k => laws_eqPatternS.f k ps ps) true := by
  have hl := hs.1
  unfold laws_eqPatternS.f
  simp only [if_true]
  refine Ev.cast (all_loop (g := fun k x => laws_eqPatternS.l0 k ps ps x) ps.length (fun _ => True) false true ?_ ?_ ?_) (by simp)
  · intro i r hi _ hr
    have c1 : (i : Int) < (ps.length : Int) := by omega
    have c2 : (0 : Int) ≤ (i : Int) := by omega
    have c3 : Aside0 (wrap64 ((i : Int) + 1) = (i : Int) + 1) := ⟨wid (by omega) (by omega)⟩
    have hb := hs.2 ps[i] (List.getElem_mem hi)
    apply Ev.succ
    simp only [laws_eqPatternS.l0, c1, c2, c3.out, rdP_nat ps i hi, if_true]
    refine Ev.bind (eqPattern_refl _ _ (by omega)) ?_
    simp only [if_true]
    exact hr
  · intro i hi hp
    exact absurd trivial hp
  · apply Ev.succ
    simp only [laws_eqPatternS.l0, Int.lt_irrefl, if_false]
    exact Ev.now _
theorem szPatternS_loop (ps : List LPat) (hl : ps.length ≤ 9223372036854775807) (hs : ∀ p ∈ ps, p.f0.size ≤ 9223372036854775807 ∧ p.f1.length ≤ 9223372036854775807) : ∀ (d i : Nat) (left : Int), ps.length - i = d → i ≤ ps.length → ps.length ≤ 1048576 → 0 ≤ left → left ≤ 1048576 →
    ∃ r, Ev (fun k => laws_szPatternS.l0 k ps left (i : Int)) r ∧ (0 ≤ r → ∀ j (h : j < ps.length), i ≤ j → ps[j].f0.size ≤ 1048576 ∧ ps[j].f1.length ≤ 1048576)
  | 0, i, left, hd, hi, hL, h0, h1 => by
    obtain rfl : i = ps.length := by omega
    refine ⟨left, ?_, fun _ j h1 h2 => by omega⟩
    apply Ev.succ
    simp only [laws_szPatternS.l0, Int.lt_irrefl, if_false]
    exact Ev.now _
  | d + 1, i, left, hd, hi, hL, h0, h1 => by
    have hi' : i < ps.length := by omega
    have c1 : (i : Int) < (ps.length : Int) := by omega
    have c2 : (0 : Int) ≤ (i : Int) := by omega
    have c3 : Aside0 (wrap64 ((i : Int) + 1) = ((i + 1 : Nat) : Int)) := ⟨by rw [wid (by omega) (by omega)]; omega⟩
    have hb := hs ps[i] (List.getElem_mem hi')
    obtain ⟨r, hr, g1, g2, g3⟩ := szPattern_small ps[i].f0 ps[i].f1 hb.1 hb.2 left h0 h1
    by_cases c : r < 0
    · refine ⟨-1, ?_, fun h => by omega⟩
      apply Ev.succ
      simp only [laws_szPatternS.l0, c1, c2, rdLP_nat ps i hi', hr, Option.bind_some, c, if_true]
      exact Ev.now _
    · have g4 := g3 (by omega)
      obtain ⟨r', hr', hq⟩ := szPatternS_loop ps hl hs d (i + 1) r (by omega) (by omega) hL (by omega) (by omega)
      refine ⟨r', ?_, fun h j hj hij => ?_⟩
      · apply Ev.succ
        simp only [laws_szPatternS.l0, c1, c2, c3.out, rdLP_nat ps i hi', hr, Option.bind_some, c, if_true, if_false]
        exact hr'
      · rcases Nat.eq_or_lt_of_le hij with rfl | h3
        · exact ⟨by omega, by omega⟩
        · exact hq h j hj h3
theorem szPatternS_small (ps : List LPat) (hl : ps.length ≤ 9223372036854775807) (hs : ∀ p ∈ ps, p.f0.size ≤ 9223372036854775807 ∧ p.f1.length ≤ 9223372036854775807) :
    ∃ r, Ev (fun k => laws_szPatternS.f k ps 1048576) r ∧ (0 ≤ r → ps.length ≤ 1048576 ∧ ∀ p ∈ ps, p.f0.size ≤ 1048576 ∧ p.f1.length ≤ 1048576) := by
  have e1 : Aside0 (wrap64 (1048576 - (ps.length : Int)) = 1048576 - (ps.length : Int)) := ⟨wid (by omega) (by omega)⟩
  by_cases c : 1048576 - (ps.length : Int) < 0
  · refine ⟨-1, ?_, fun h => by omega⟩
    unfold laws_szPatternS.f
    simp only [e1.out, c, if_true]
    exact Ev.now _
  · obtain ⟨r, hr, hq⟩ := szPatternS_loop ps hl hs ps.length 0 (1048576 - (ps.length : Int)) (by omega) (by omega) (by omega) (by omega) (by omega)
    refine ⟨r, ?_, fun h => ⟨by omega, fun p hp => ?_⟩⟩
    · unfold laws_szPatternS.f
      simp only [e1.out, c, if_false]
      exact hr
    · obtain ⟨j, hj, rfl⟩ := List.getElem_of_mem hp
      exact hq h j hj (by omega)
theorem small_conv (ps : List LPat) (h : ps.length ≤ 1048576 ∧ ∀ p ∈ ps, p.f0.size ≤ 1048576 ∧ p.f1.length ≤ 1048576) : small (ps.map conv) := by
  refine ⟨by rw [List.length_map]; exact h.1, fun p hp => ?_⟩
  obtain ⟨q, hq, rfl⟩ := List.mem_map.1 hp
  exact h.2 q hq
end Go.Proofs.Ytndjhgjakdkkaaa.M
end

section
/- FnExactSplitText, plain. -/
namespace Go.Proofs.Ytndjhgjakdkkaaa.M
open Go.RowKit Go.Proofs.YtndjhgjakdkkaaaW.PrintWords Go.Proofs.Ytndjhgjakdkkaaa.Pu
set_option linter.unusedVariables false
theorem FnExactSplitText_pure (ps : List S24) (hx : ps.length ≤ 9223372036854775807 ∧ ∀ y ∈ ps, good24 y) (w : ByteArray) (hw : w.size ≤ 140737488351232) : ∃ k, laws_FnExactSplitText.f k ps w = some true := by
  apply Ev.rounds (g := fun k => laws_FnExactSplitText.f k ps w)
  unfold laws_FnExactSplitText.f
  by_cases c0 : (w.size : Int) > 1048576
  · simp only [c0, if_true]
    exact Ev.now _
  · simp only [c0, if_false]
    obtain ⟨r, hr, hq⟩ := szPatternS_small ps hx.1 (fun p hp => ⟨(hx.2 p hp).1, (hx.2 p hp).2.1⟩)
    refine Ev.bind hr ?_
    by_cases c : r < 0
    · simp only [c, if_true]
      exact Ev.now _
    · simp only [c, if_false]
      have hs := hq (by omega)
      have hsm := small_conv ps hs
      refine Ev.bind (toPatternS_ev ps hs) ?_
      refine Ev.bind (spec_SplitText_ev _ hsm w (by omega)) ?_
      refine Ev.bind (toPatternS_ev ps hs) ?_
      refine Ev.bind (impl_SplitText_ev _ hsm w (by omega)) ?_
      simp only [if_true]
      refine Ev.bind (toPatternS_ev ps hs) ?_
      refine Ev.bind (eqPatternS_refl _ hsm) ?_
      simp only [if_true]
      exact Ev.now _
end Go.Proofs.Ytndjhgjakdkkaaa.M
end

section
/- 'FnExactSplitText': for every input it returns true and its arguments read as before. Conditions: those of the given row alone. -/
namespace Go.Proofs.Ytndjhgjakdkkaaa.fnExactSplitText
open Go.ChangeShapes Go.WideShapes Go.ChangeAt Go.RowKit
open Go.ChangeMaps (open_string shut_string)
open Go.Proofs.Ytndjhgjakdkkaaa.M Go.Proofs.Ytndjhgjakdkkaaa.Frame Go.Proofs.YtndjhgjakdkkaaaW.PrintWords
set_option linter.unusedVariables false
theorem own : ownKnob Try.prog.godebug = none := by kernel_rfl
theorem laidOut : laidOutB Try.prog = true := by kernel_rfl
set_option maxRecDepth 100000 in
theorem lifted (os : Os) (started : os.Started) (H : Type) (enc : TypeId × Value → H) :
    ReturnsInHanded {} Try.checked os 5 .any (Rows.fnExactSplitTextSpec.pre6 enc Try.prog Try.f5 Rows.fnExactSplitTextRow.domain false) (Rows.fnExactSplitTextSpec.post enc Try.prog Try.f5 false true false false) := by
  refine returnsInHanded_of_change_sized (C := Try.checked) own started (by kernel_rfl) Try.func5
    (ChangeSpec.witness6 (enc := enc) (C := Try.checked) false ⟨#[], #[.slice none 0 0, .string ByteArray.empty], []⟩ 8 (by kernel_rfl) (by kernel_rfl) (by kernel_rfl) (by kernel_rfl)) ?_
  intro W base args ds gs before hval0 hW hcnd hsz0 _
  have hsz : (DataW.weightsEach Try.prog (Try.f5.params.toList ++ Rows.fnExactSplitTextSpec.plain.varTypes Try.prog) (ds ++ gs)).all (· ≤ reachBytes) = true := hsz0
  have hval : ∀ (j : Nat) t v, Try.f5.params[j]? = some t → args[j]? = some v → Value.okWide Try.prog W .any base t v := hval0
  have hW' := hW
  obtain ⟨p, q, hA0, hV, rfl, hfz, hnd⟩ := hW
  have hA : DataW.TrodAll enc Try.prog W 0 (fun _ => true) true Try.f5.params.toList args.toList ds p := hA0
  rw [Try.params5] at hA hval hsz
  obtain ⟨v0, vs0, d0, ds0, p0, q0, hargs, rfl, rfl, h0, r0⟩ := trodAll_cons hA
  obtain ⟨v1, vs1, d1, ds1, p1, q1, rfl, rfl, rfl, h1, r1⟩ := trodAll_cons r0
  obtain ⟨rfl, rfl, rfl⟩ := trodAll_nil r1
  obtain rfl : args = #[v0, v1] := by cases args; simp_all
  obtain ⟨a0, len0, cap0, rfl⟩ := okWide_slice Try.underlying41 (hval 0 41 v0 rfl rfl)
  have k0 := h0
  have lt0 : ∀ x ∈ p0, x.block < W.heap.size := by obtain ⟨m, hm⟩ := k0; exact DataW.trod_lt m _ _ _ hm
  obtain ⟨fu0, hf0⟩ := h0
  obtain ⟨x0, hx0, G0⟩ := ((Opens.slice Try.underlying41 (by kernel_rfl) opens24)) H enc _ _ _ _ _ _ _ hf0
  obtain ⟨A0, c0, hcs0, l0, g0⟩ := hx0
  obtain ⟨rfl, rfl, rfl⟩ : A0 = a0 ∧ x0.length = len0 ∧ c0 = cap0 := by injection (show [Value.slice a0 len0 cap0] = [Value.slice A0 x0.length c0] from hcs0) with e1 _; injection e1 with e1 e2 e3; exact ⟨e1.symm, e2.symm, e3.symm⟩
  obtain ⟨a1, rfl, rfl, rfl, y1⟩ := open_string Try.underlying9 (hval 1 9 v1 rfl rfl) h1
  have w1 : a1.size ≤ 140737488351232 := by
    have z := sized_string hsz (j := 1) (t := 9) rfl rfl
    rw [Array.length_toList] at z
    exact z
  obtain ⟨rfl, rfl⟩ := trodVars_none hV
  clear hA0 hval0 hsz0 hsz
  obtain ⟨k, hk⟩ := FnExactSplitText_pure x0 G0 a1 w1
  refine (laws_FnExactSplitText.calls k _ _ _ _ true W rfl g0 l0 hk).mono fun e W' ⟨he, bel0⟩ => ?_
  have bel : Below W.heap.size W W' := bel0
  subst he
  exact ⟨_, rfl, _, _, _, [], _, [], hW', trodAll_mk1 (shut_bool Try.underlying4 _), (trodAll_cons_mk (Below.trod laidOut (by kernel_rfl) (of_decide_eq_true (by kernel_rfl)) k0 bel lt0) (trodAll_cons_mk (shut_string Try.underlying9 y1) trodAll_mk0)), rfl, bel.frame _, fun h => by cases h⟩
theorem over : Rows.fnExactSplitTextRow.holds Try.pinned (OpenSpec.ofChange Rows.fnExactSplitTextSpec) :=
  OpenClaim.holds_of_wide 5 Try.f5 rfl rfl rfl rfl rfl rfl rfl ⟨rfl, rfl, rfl, rfl, rfl⟩ rfl rfl rfl rfl rfl (by kernel_rfl) Try.func5 (by kernel_rfl)
    (of_decide_eq_true (by kernel_rfl)) (by unfold Func.isWrapper; first | (rw [if_pos (by decide +kernel)]; kernel_rfl) | (rw [if_neg (by decide +kernel)]; exact ⟨rfl, rfl⟩))
    (fun os started H enc _ => lifted os started H enc)
theorem proved : Rows.FnExactSplitTextSaid := over
end Go.Proofs.Ytndjhgjakdkkaaa.fnExactSplitText
namespace Go.Proofs.Ytndjhgjakdkkaaa
/-- The statement. -/
theorem fnExactSplitText_holds : Rows.FnExactSplitTextSaid := fnExactSplitText.proved
end Go.Proofs.Ytndjhgjakdkkaaa
end
