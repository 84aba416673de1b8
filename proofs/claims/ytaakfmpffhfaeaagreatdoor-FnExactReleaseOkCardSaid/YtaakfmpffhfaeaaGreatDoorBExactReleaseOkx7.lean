import Derived.Test.YtaakfmpffhfaeaaGreatDoorBExactReleaseOkx6
import Derived.Test.YtaakfmpffhfaeaaGreatDoorBExactReleaseOkx4
import Derived.Test.YtaakfmpffhfaeaaGreatDoorBExactReleaseOkx2
import Derived.Test.YtaakfmpffhfaeaaGreatDoorBExactReleaseOkx3
import Derived.Test.YtaakfmpffhfaeaaGreatDoorBExactReleaseOkx5

section
/- How much the arguments hold, and what they are turned into, plain. -/
namespace Go.Proofs.YtaakfmpffhfaeaaGreatDoor.M
open Go.RowKit Go.Proofs.YtaakfmpffhfaeaaGreatDoorW.PrintWords Go.Proofs.YtaakfmpffhfaeaaGreatDoor.Pu
set_option linter.unusedVariables false
set_option linter.unusedSimpArgs false
abbrev LE := S108
abbrev LA := S106
abbrev Sz (n : Nat) : Prop := n ≤ 1048576
theorem sz_loop {α : Type} {g : Nat → Int → Int → Option Int} (l : List α) (Q : α → Prop)
  (step : ∀ (i : Nat) (hi : i < l.length) (a : Int), 0 ≤ a → a ≤ 1048576 → (Ev (fun k => g k a (i : Int)) (-1)) ∨ ∃ t : Int, 0 ≤ t ∧ t ≤ a ∧ Q l[i] ∧ ∀ r, Ev (fun k => g k t ((i : Int) + 1)) r → Ev (fun k => g k a (i : Int)) r)
  (done : ∀ a : Int, Ev (fun k => g k a (l.length : Int)) a) (d : Nat) : ∀ (i : Nat) (a : Int), l.length - i = d → i ≤ l.length → 0 ≤ a → a ≤ 1048576 →
  ∃ r : Int, Ev (fun k => g k a (i : Int)) r ∧ (r = -1 ∨ (0 ≤ r ∧ r ≤ a ∧ ∀ j (hj : j < l.length), i ≤ j → Q l[j])) := by
 induction d with
 | zero =>
  intro i a hd hi h0 h1
  obtain rfl : i = l.length := by omega
  exact ⟨a, done a, .inr ⟨h0, Int.le_refl _, fun j h1 h2 => absurd h1 (by omega)⟩⟩
 | succ d ih =>
  intro i a hd hi h0 h1
  rcases step i (by omega) a h0 h1 with h | ⟨t, t0, t1, hq, h⟩
  ·exact ⟨-1, h, .inl rfl⟩
  ·obtain ⟨r, hr, hc⟩ := ih (i + 1) t (by omega) (by omega) t0 (by omega)
   refine ⟨r, h r (by exact_mod_cast hr), hc.imp id fun ⟨r0, r1, hz⟩ => ⟨r0, by omega, fun j hj hij => ?_⟩⟩
   rcases Nat.eq_or_lt_of_le hij with rfl | c
   ·exact hq
   ·exact hz j hj c
theorem szS_ev (l : List ByteArray) (hl : l.length ≤ 9223372036854775807) (hg : ∀ y ∈ l, y.size ≤ 9223372036854775807) (a : Int) (h0 : 0 ≤ a) (h1 : a ≤ 1048576) :
  ∃ r : Int, Ev (fun k => laws_szStringS.f k l a) r ∧ (r = -1 ∨ (0 ≤ r ∧ r ≤ a ∧ Sz l.length ∧ ∀ y ∈ l, Sz y.size)) := by
 unfold laws_szStringS.f
 have w0 : wrap64 (a - (l.length : Int)) = a - (l.length : Int) := wid (by omega) (by omega)
 rw [w0]
 by_cases c : a - (l.length : Int) < 0
 ·exact ⟨-1, Ev.ifp c (Ev.now _), .inl rfl⟩
 have key := sz_loop (g := fun k x y => laws_szStringS.l0 k l x y) l (fun y => Sz y.size) ?_ ?_ l.length 0 (a - (l.length : Int)) (by omega) (by omega) (by omega) (by omega)
 ·obtain ⟨r, hr, hc⟩ := key
  refine ⟨r, Ev.ifn c hr, hc.imp id fun ⟨r0, r1, hz⟩ => ⟨r0, by omega, by simp only [Sz]; omega, fun y hy => ?_⟩⟩
  obtain ⟨j, hj, rfl⟩ := List.mem_iff_getElem.1 hy
  exact hz j hj (Nat.zero_le _)
 ·intro i hi b b0 b1
  have e : rdOf ByteArray.empty l (i : Int) = l[i] := by simp [rdOf, hi]
  have hy := hg _ (List.getElem_mem hi)
  have c1 : (i : Int) < (l.length : Int) := by omega
  have c2 : (0 : Int) ≤ (i : Int) := by omega
  have w1 : wrap64 ((i : Int) + 1) = (i : Int) + 1 := wid (by omega) (by omega)
  have w2 : wrap64 (b - (l[i].size : Int)) = b - (l[i].size : Int) := wid (by omega) (by omega)
  by_cases c3 : b - (l[i].size : Int) < 0
  ·refine .inl (Ev.succ ?_)
   simp only [laws_szStringS.l0, e, w2, c1, c2, c3, if_true]
   exact Ev.now _
  ·refine .inr ⟨b - (l[i].size : Int), by omega, by omega, by simp only [Sz]; omega, fun r hr => Ev.succ ?_⟩
   simp only [laws_szStringS.l0, e, w1, w2, c1, c2, c3, if_true, if_false]
   exact hr
 ·intro b
  apply Ev.succ
  simp only [laws_szStringS.l0, Int.lt_irrefl, if_false]
  exact Ev.now _
theorem szE_ev (l : List LE) (hl : l.length ≤ 9223372036854775807) (hg : ∀ y ∈ l, y.f0.size ≤ 9223372036854775807 ∧ y.f1.size ≤ 9223372036854775807) (a : Int) (h0 : 0 ≤ a) (h1 : a ≤ 1048576) :
  ∃ r : Int, Ev (fun k => laws_szEntryS.f k l a) r ∧ (r = -1 ∨ (0 ≤ r ∧ r ≤ a ∧ Sz l.length ∧ ∀ y ∈ l, Sz y.f0.size ∧ Sz y.f1.size)) := by
 unfold laws_szEntryS.f
 have w0 : wrap64 (a - (l.length : Int)) = a - (l.length : Int) := wid (by omega) (by omega)
 rw [w0]
 by_cases c : a - (l.length : Int) < 0
 ·exact ⟨-1, Ev.ifp c (Ev.now _), .inl rfl⟩
 have key := sz_loop (g := fun k x y => laws_szEntryS.l0 k l x y) l (fun y => Sz y.f0.size ∧ Sz y.f1.size) ?_ ?_ l.length 0 (a - (l.length : Int)) (by omega) (by omega) (by omega) (by omega)
 ·obtain ⟨r, hr, hc⟩ := key
  refine ⟨r, Ev.ifn c hr, hc.imp id fun ⟨r0, r1, hz⟩ => ⟨r0, by omega, by simp only [Sz]; omega, fun y hy => ?_⟩⟩
  obtain ⟨j, hj, rfl⟩ := List.mem_iff_getElem.1 hy
  exact hz j hj (Nat.zero_le _)
 ·intro i hi b b0 b1
  have e : rd_T108 l (i : Int) = l[i] := by simp [rd_T108, hi]
  have hy := hg _ (List.getElem_mem hi)
  have c1 : (i : Int) < (l.length : Int) := by omega
  have c2 : (0 : Int) ≤ (i : Int) := by omega
  have w1 : wrap64 ((i : Int) + 1) = (i : Int) + 1 := wid (by omega) (by omega)
  have w2 : wrap64 (b - (l[i].f0.size : Int)) = b - (l[i].f0.size : Int) := wid (by omega) (by omega)
  by_cases c3 : b - (l[i].f0.size : Int) < 0
  ·refine .inl (Ev.succ ?_)
   simp only [laws_szEntryS.l0, laws_szEntry.f, e, w2, c1, c2, c3, if_true, Option.bind_some, show ((-1 : Int) < 0) from by decide]
   exact Ev.now _
  have w3 : wrap64 (b - (l[i].f0.size : Int) - (l[i].f1.size : Int)) = b - (l[i].f0.size : Int) - (l[i].f1.size : Int) := wid (by omega) (by omega)
  by_cases c4 : b - (l[i].f0.size : Int) - (l[i].f1.size : Int) < 0
  ·refine .inl (Ev.succ ?_)
   simp only [laws_szEntryS.l0, laws_szEntry.f, e, w2, w3, c1, c2, c3, c4, if_true, if_false, Option.bind_some, show ((-1 : Int) < 0) from by decide]
   exact Ev.now _
  ·refine .inr ⟨b - (l[i].f0.size : Int) - (l[i].f1.size : Int), by omega, by omega, ⟨by simp only [Sz]; omega, by simp only [Sz]; omega⟩, fun r hr => Ev.succ ?_⟩
   simp only [laws_szEntryS.l0, laws_szEntry.f, e, w1, w2, w3, c1, c2, c3, c4, if_true, if_false, Option.bind_some]
   exact hr
 ·intro b
  apply Ev.succ
  simp only [laws_szEntryS.l0, Int.lt_irrefl, if_false]
  exact Ev.now _
theorem szA_one (y : LA) (hy : y.f0.size ≤ 9223372036854775807 ∧ y.f2.size ≤ 9223372036854775807 ∧ y.f3.size ≤ 9223372036854775807 ∧ y.f4.size ≤ 9223372036854775807) (b : Int) (b0 : 0 ≤ b) (b1 : b ≤ 1048576) :
  laws_szAffix.f y.f0 y.f1 y.f2 y.f3 y.f4 b = some (-1) ∨ ∃ t : Int, laws_szAffix.f y.f0 y.f1 y.f2 y.f3 y.f4 b = some t ∧ 0 ≤ t ∧ t ≤ b ∧ Sz y.f0.size ∧ Sz y.f2.size ∧ Sz y.f3.size ∧ Sz y.f4.size := by
 unfold laws_szAffix.f
 obtain ⟨h1, h2, h3, h4⟩ := hy
 have w1 : wrap64 (b - (y.f0.size : Int)) = b - (y.f0.size : Int) := wid (by omega) (by omega)
 rw [w1]
 by_cases c1 : b - (y.f0.size : Int) < 0
 ·exact .inl (if_pos c1)
 have w2 : wrap64 (b - (y.f0.size : Int) - (y.f2.size : Int)) = b - (y.f0.size : Int) - (y.f2.size : Int) := wid (by omega) (by omega)
 rw [if_neg c1, w2]
 by_cases c2 : b - (y.f0.size : Int) - (y.f2.size : Int) < 0
 ·exact .inl (if_pos c2)
 have w3 : wrap64 (b - (y.f0.size : Int) - (y.f2.size : Int) - (y.f3.size : Int)) = b - (y.f0.size : Int) - (y.f2.size : Int) - (y.f3.size : Int) := wid (by omega) (by omega)
 rw [if_neg c2, w3]
 by_cases c3 : b - (y.f0.size : Int) - (y.f2.size : Int) - (y.f3.size : Int) < 0
 ·exact .inl (if_pos c3)
 have w4 : wrap64 (b - (y.f0.size : Int) - (y.f2.size : Int) - (y.f3.size : Int) - (y.f4.size : Int)) = b - (y.f0.size : Int) - (y.f2.size : Int) - (y.f3.size : Int) - (y.f4.size : Int) := wid (by omega) (by omega)
 rw [if_neg c3, w4]
 by_cases c4 : b - (y.f0.size : Int) - (y.f2.size : Int) - (y.f3.size : Int) - (y.f4.size : Int) < 0
 ·exact .inl (if_pos c4)
 ·exact .inr ⟨_, if_neg c4, by omega, by omega, by simp only [Sz]; omega, by simp only [Sz]; omega, by simp only [Sz]; omega, by simp only [Sz]; omega⟩
theorem szA_ev (l : List LA) (hl : l.length ≤ 9223372036854775807) (hg : ∀ y ∈ l, y.f0.size ≤ 9223372036854775807 ∧ y.f2.size ≤ 9223372036854775807 ∧ y.f3.size ≤ 9223372036854775807 ∧ y.f4.size ≤ 9223372036854775807) (a : Int) (h0 : 0 ≤ a) (h1 : a ≤ 1048576) :
  ∃ r : Int, Ev (fun k => laws_szAffixS.f k l a) r ∧ (r = -1 ∨ (0 ≤ r ∧ r ≤ a ∧ Sz l.length ∧ ∀ y ∈ l, Sz y.f0.size ∧ Sz y.f2.size ∧ Sz y.f3.size ∧ Sz y.f4.size)) := by
 unfold laws_szAffixS.f
 have w0 : wrap64 (a - (l.length : Int)) = a - (l.length : Int) := wid (by omega) (by omega)
 rw [w0]
 by_cases c : a - (l.length : Int) < 0
 ·exact ⟨-1, Ev.ifp c (Ev.now _), .inl rfl⟩
 have key := sz_loop (g := fun k x y => laws_szAffixS.l0 k l x y) l (fun y => Sz y.f0.size ∧ Sz y.f2.size ∧ Sz y.f3.size ∧ Sz y.f4.size) ?_ ?_ l.length 0 (a - (l.length : Int)) (by omega) (by omega) (by omega) (by omega)
 ·obtain ⟨r, hr, hc⟩ := key
  refine ⟨r, Ev.ifn c hr, hc.imp id fun ⟨r0, r1, hz⟩ => ⟨r0, by omega, by simp only [Sz]; omega, fun y hy => ?_⟩⟩
  obtain ⟨j, hj, rfl⟩ := List.mem_iff_getElem.1 hy
  exact hz j hj (Nat.zero_le _)
 ·intro i hi b b0 b1
  have e : rd_T106 l (i : Int) = l[i] := by simp [rd_T106, hi]
  have hy := hg _ (List.getElem_mem hi)
  have c1 : (i : Int) < (l.length : Int) := by omega
  have c2 : (0 : Int) ≤ (i : Int) := by omega
  have w1 : wrap64 ((i : Int) + 1) = (i : Int) + 1 := wid (by omega) (by omega)
  rcases szA_one l[i] hy b b0 b1 with h | ⟨t, h, t0, t1, hq⟩
  ·refine .inl (Ev.succ ?_)
   simp only [laws_szAffixS.l0, e, h, c1, c2, if_true, Option.bind_some, show ((-1 : Int) < 0) from by decide]
   exact Ev.now _
  ·have c3 : ¬ t < 0 := by omega
   refine .inr ⟨t, t0, t1, hq, fun r hr => Ev.succ ?_⟩
   simp only [laws_szAffixS.l0, e, h, w1, c1, c2, c3, if_true, if_false, Option.bind_some]
   exact hr
 ·intro b
  apply Ev.succ
  simp only [laws_szAffixS.l0, Int.lt_irrefl, if_false]
  exact Ev.now _
structure SzD (g : List ByteArray) (c : List LE) (l : List LA) : Prop where
 g1 : Sz g.length
 g2 : ∀ y ∈ g, Sz y.size
 c1 : Sz c.length
 c2 : ∀ y ∈ c, Sz y.f0.size ∧ Sz y.f1.size
 l1 : Sz l.length
 l2 : ∀ y ∈ l, Sz y.f0.size ∧ Sz y.f2.size ∧ Sz y.f3.size ∧ Sz y.f4.size
theorem szD_ev (g : List ByteArray) (c : List LE) (b : Bool) (l : List LA) (hg : g.length ≤ 9223372036854775807) (hg2 : ∀ y ∈ g, y.size ≤ 9223372036854775807)
  (hc : c.length ≤ 9223372036854775807) (hc2 : ∀ y ∈ c, y.f0.size ≤ 9223372036854775807 ∧ y.f1.size ≤ 9223372036854775807)
  (hl : l.length ≤ 9223372036854775807) (hl2 : ∀ y ∈ l, y.f0.size ≤ 9223372036854775807 ∧ y.f2.size ≤ 9223372036854775807 ∧ y.f3.size ≤ 9223372036854775807 ∧ y.f4.size ≤ 9223372036854775807)
  (a : Int) (h0 : 0 ≤ a) (h1 : a ≤ 1048576) : ∃ r : Int, Ev (fun k => laws_szDelta.f k g c b l a) r ∧ (r = -1 ∨ (0 ≤ r ∧ r ≤ a ∧ SzD g c l)) := by
 unfold laws_szDelta.f
 obtain ⟨r, e, h⟩ := szS_ev g hg hg2 a h0 h1
 by_cases z : r < 0
 ·exact ⟨-1, Ev.bind e (Ev.ifp z (Ev.now _)), .inl rfl⟩
 obtain ⟨r0, r1, p1, p2⟩ := h.resolve_left (by omega)
 obtain ⟨s, e2, h2⟩ := szE_ev c hc hc2 r r0 (by omega)
 by_cases z2 : s < 0
 ·exact ⟨-1, Ev.bind e (Ev.ifn z (Ev.bind e2 (Ev.ifp z2 (Ev.now _)))), .inl rfl⟩
 obtain ⟨s0, s1, p3, p4⟩ := h2.resolve_left (by omega)
 obtain ⟨t, e3, h3⟩ := szA_ev l hl hl2 s s0 (by omega)
 by_cases z3 : t < 0
 ·exact ⟨-1, Ev.bind e (Ev.ifn z (Ev.bind e2 (Ev.ifn z2 (Ev.bind e3 (Ev.ifp z3 (Ev.now _)))))), .inl rfl⟩
 obtain ⟨t0, t1, p5, p6⟩ := h3.resolve_left (by omega)
 exact ⟨t, Ev.bind e (Ev.ifn z (Ev.bind e2 (Ev.ifn z2 (Ev.bind e3 (Ev.ifn z3 (Ev.now _)))))), .inr ⟨t0, by omega, p1, p2, p3, p4, p5, p6⟩⟩
def cE (y : LE) : En := ⟨y.f0, y.f1⟩
def cA (y : LA) : Af := ⟨y.f0, y.f1, y.f2, y.f3, y.f4⟩
theorem take_set {α : Type} (ys xs : List α) (h : xs.length = ys.length) (i : Nat) (hi : i < ys.length) : (ys.take i ++ xs.drop i).set i ys[i] = ys.take (i + 1) ++ xs.drop (i + 1) := by
 have hl : (ys.take i).length = i := by simp; omega
 rw [List.set_append_right _ _ (by omega), hl, Nat.sub_self, List.drop_eq_getElem_cons (by omega), List.set_cons_zero, List.take_succ_eq_append_getElem hi, List.append_assoc]
 rfl
theorem take_len {α : Type} (ys xs : List α) (h : xs.length = ys.length) (i : Nat) (hi : i ≤ ys.length) : (ys.take i ++ xs.drop i).length = ys.length := by
 simp
 omega
theorem to_loop {α β : Type} {g : Nat → List β → Int → Option (List β)} (ys : List β)
  (step : ∀ (i : Nat) (hi : i < ys.length) (zs : List β) (r : List β), zs.length = ys.length → Ev (fun k => g k (zs.set i ys[i]) ((i : Int) + 1)) r → Ev (fun k => g k zs (i : Int)) r)
  (done : ∀ zs : List β, Ev (fun k => g k zs (ys.length : Int)) zs) (d : Nat) : ∀ (i : Nat) (xs : List β), xs.length = ys.length → ys.length - i = d → i ≤ ys.length → Ev (fun k => g k (ys.take i ++ xs.drop i) (i : Int)) ys := by
 induction d with
 | zero =>
  intro i xs hx hd hi
  obtain rfl : i = ys.length := by omega
  exact Ev.cast (done _) (by simp [hx])
 | succ d ih =>
  intro i xs hx hd hi
  refine step i (by omega) _ _ (take_len ys xs hx i hi) ?_
  rw [take_set ys xs hx i (by omega)]
  have h := ih (i + 1) xs hx (by omega) (by omega)
  exact_mod_cast h
theorem toS_ev (l : List ByteArray) (h : Sz l.length) : Ev (fun k => laws_toStringS.f k l) l := by
 unfold laws_toStringS.f
 simp only [Sz] at h
 refine Ev.ifp (by omega) (Ev.ifp (by omega) ?_)
 have hr : (List.replicate ((l.length : Int)).toNat (⟨#[]⟩ : ByteArray)).length = l.length := by simp
 have key := to_loop (α := Nat) (g := fun k zs x => laws_toStringS.l0 k l zs x) l ?_ ?_ l.length 0 _ hr (by omega) (by omega)
 ·exact key
 ·intro i hi zs r hz hr
  have e : rdOf ByteArray.empty l (i : Int) = l[i] := by simp [rdOf, hi]
  have c1 : (i : Int) < (l.length : Int) := by omega
  have c2 : (0 : Int) ≤ (i : Int) := by omega
  have c3 : (i : Int) < (zs.length : Int) := by omega
  have w1 : wrap64 ((i : Int) + 1) = (i : Int) + 1 := wid (by omega) (by omega)
  apply Ev.succ
  simp only [laws_toStringS.l0, e, w1, c1, c2, c3, if_true, Int.toNat_natCast]
  exact hr
 ·intro zs
  apply Ev.succ
  simp only [laws_toStringS.l0, Int.lt_irrefl, if_false]
  exact Ev.now _
theorem toE_ev (l : List LE) (h : Sz l.length) : Ev (fun k => laws_toEntryS.f k l) (l.map cE) := by
 unfold laws_toEntryS.f
 simp only [Sz] at h
 refine Ev.ifp (by omega) (Ev.ifp (by omega) ?_)
 have hr : (List.replicate ((l.length : Int)).toNat z100).length = (l.map cE).length := by simp
 have key := to_loop (α := Nat) (g := fun k zs x => laws_toEntryS.l0 k l zs x) (l.map cE) ?_ ?_ (l.map cE).length 0 _ hr (by omega) (by omega)
 ·exact key
 ·intro i hi zs r hz hr
  have hi' : i < l.length := by simpa using hi
  have e : rd_T108 l (i : Int) = l[i] := by simp [rd_T108, hi']
  rw [List.length_map] at hz
  have c1 : (i : Int) < (l.length : Int) := by omega
  have c2 : (0 : Int) ≤ (i : Int) := by omega
  have c3 : (i : Int) < (zs.length : Int) := by omega
  have w1 : wrap64 ((i : Int) + 1) = (i : Int) + 1 := wid (by omega) (by omega)
  apply Ev.succ
  simp only [laws_toEntryS.l0, laws_toEntry.f, e, w1, c1, c2, c3, if_true, Int.toNat_natCast, Option.bind_some]
  simpa [cE] using hr
 ·intro zs
  apply Ev.succ
  simp only [laws_toEntryS.l0, List.length_map, Int.lt_irrefl, if_false]
  exact Ev.now _
theorem toA_ev (l : List LA) (h : Sz l.length) : Ev (fun k => laws_toAffixS.f k l) (l.map cA) := by
 unfold laws_toAffixS.f
 simp only [Sz] at h
 refine Ev.ifp (by omega) (Ev.ifp (by omega) ?_)
 have hr : (List.replicate ((l.length : Int)).toNat z103).length = (l.map cA).length := by simp
 have key := to_loop (α := Nat) (g := fun k zs x => laws_toAffixS.l0 k l zs x) (l.map cA) ?_ ?_ (l.map cA).length 0 _ hr (by omega) (by omega)
 ·exact key
 ·intro i hi zs r hz hr
  have hi' : i < l.length := by simpa using hi
  have e : rd_T106 l (i : Int) = l[i] := by simp [rd_T106, hi']
  rw [List.length_map] at hz
  have c1 : (i : Int) < (l.length : Int) := by omega
  have c2 : (0 : Int) ≤ (i : Int) := by omega
  have c3 : (i : Int) < (zs.length : Int) := by omega
  have w1 : wrap64 ((i : Int) + 1) = (i : Int) + 1 := wid (by omega) (by omega)
  apply Ev.succ
  simp only [laws_toAffixS.l0, laws_toAffix.f, e, w1, c1, c2, c3, if_true, Int.toNat_natCast, Option.bind_some]
  simpa [cA] using hr
 ·intro zs
  apply Ev.succ
  simp only [laws_toAffixS.l0, List.length_map, Int.lt_irrefl, if_false]
  exact Ev.now _
theorem toD_ev (g : List ByteArray) (c : List LE) (b : Bool) (l : List LA) (h : SzD g c l) : Ev (fun k => laws_toDelta.f k g c b l) (g, c.map cE, b, l.map cA) := by
 unfold laws_toDelta.f
 exact Ev.bind (toS_ev g h.g1) (Ev.bind (toE_ev c h.c1) (Ev.bind (toA_ev l h.l1) (Ev.now _)))
end Go.Proofs.YtaakfmpffhfaeaaGreatDoor.M
end

section
namespace Go.Proofs.YtaakfmpffhfaeaaGreatDoor.M
open Go.RowKit Go.Proofs.YtaakfmpffhfaeaaGreatDoorW.PrintWords Go.Proofs.YtaakfmpffhfaeaaGreatDoorW.PrintLast Go.Proofs.YtaakfmpffhfaeaaGreatDoorW.PrintMore Go.Proofs.YtaakfmpffhfaeaaGreatDoor.Sq
set_option synthInstance.maxHeartbeats 2000000
set_option synthInstance.maxSize 4096
attribute [local go_sem] max2_int min2_int max_two min_two max_three min_three max_four min_four
set_option linter.unusedVariables false
set_option linter.unusedSimpArgs false
set_option maxHeartbeats 8000000
set_option maxRecDepth 100000
theorem gf106 : Go_ Tryz.prog 106 Tryz.f106 := ⟨Tryz.func106, by kernel_rfl, rfl⟩
theorem gf57 : Go_ Tryz.prog 57 Tryz.f57 := ⟨Tryz.func57, by kernel_rfl, rfl⟩
theorem gf50 : Go_ Tryz.prog 50 Tryz.f50 := ⟨Tryz.func50, by kernel_rfl, rfl⟩
end Go.Proofs.YtaakfmpffhfaeaaGreatDoor.M
end

section
/- HashSum and SealOf, plain: the program's are the reference's. -/
namespace Go.Proofs.YtaakfmpffhfaeaaGreatDoor.M
open Go.RowKit Go.Proofs.YtaakfmpffhfaeaaGreatDoorW.PrintWords Go.Proofs.YtaakfmpffhfaeaaGreatDoorW.PrintMore Go.Proofs.YtaakfmpffhfaeaaGreatDoor.Pu Go.Proofs.YtaakfmpffhfaeaaGreatDoor.Sha
set_option linter.unusedVariables false
set_option linter.unusedSimpArgs false
def hexDigits : ByteArray := ⟨#[48, 49, 50, 51, 52, 53, 54, 55, 56, 57, 97, 98, 99, 100, 101, 102]⟩
def hexTo (s : ByteArray) : Nat → List Int
 | 0 => []
 | n + 1 => hexTo s n ++ [bt hexDigits (bt s (n : Int) / 16), bt hexDigits (bt s (n : Int) % 16)]
theorem hexTo_length (s : ByteArray) : ∀ n, (hexTo s n).length = 2 * n
 | 0 => rfl
 | n + 1 => by simp only [hexTo, List.length_append, hexTo_length s n, List.length_cons, List.length_nil]; omega
def hexOf (s : ByteArray) : ByteArray := strOfNums (hexTo s s.size)
theorem hex_facts (s : ByteArray) (i : Int) : Int.tdiv (bt s i) 16 % 256 = bt s i / 16 ∧ Int.tmod (bt s i) 16 = bt s i % 16 ∧ 0 ≤ bt s i / 16 ∧ bt s i / 16 < 16 ∧ 0 ≤ bt s i % 16 ∧ bt s i % 16 < 16 := by
 have h0 := bt_ge s i
 have h1 := bt_le s i
 rw [Int.tdiv_eq_ediv_of_nonneg h0, Int.tmod_eq_emod_of_nonneg h0]
 omega
theorem implHex_ev (s : ByteArray) (hs : s.size ≤ 1099511627776) : Ev (fun k => impl_hexOf.f k s) (hexOf s) := by
 unfold impl_hexOf.f
 refine fold_loop (g := fun k x i => impl_hexOf.l0 k s x i) s.size (hexTo s) _ ?_ ?_
 ·intro i hi h
  apply Ev.succ
  obtain ⟨f1, f2, f3, f4, f5, f6⟩ := hex_facts s (i : Int)
  have e4 : wrap64 ((i : Int) + 1) = (i : Int) + 1 := wid (by omega) (by omega)
  simp only [impl_hexOf.l0, f1, f2, e4, Option.bind_some]
  clear e4 f1 f2
  refine Ev.ifp (by omega) (Ev.ifp (by omega) (Ev.ifp f3 (Ev.ifp f4 (Ev.ifp f5 (Ev.ifp f6 (Ev.ifp ?_ h))))))
  rw [hexTo_length]
  simp only [List.length_cons, List.length_nil]
  omega
 ·apply Ev.succ
  simp only [impl_hexOf.l0]
  exact Ev.ifn (by omega) (Ev.now _)
theorem specHex_ev (s : ByteArray) (hs : s.size ≤ 1099511627776) : Ev (fun k => spec_l6Hex.f k s) (hexOf s) := by
 unfold spec_l6Hex.f
 refine fold_loop (g := fun k x i => spec_l6Hex.l0 k s hexDigits x i) s.size (hexTo s) _ ?_ ?_
 ·intro i hi h
  apply Ev.succ
  obtain ⟨f1, f2, f3, f4, f5, f6⟩ := hex_facts s (i : Int)
  have e4 : wrap64 ((i : Int) + 1) = (i : Int) + 1 := wid (by omega) (by omega)
  have e5 : (hexDigits.size : Int) = 16 := rfl
  simp only [spec_l6Hex.l0, f1, f2, e4, e5, Option.bind_some]
  clear e4 f1 f2
  refine Ev.ifp (by omega) (Ev.ifp (by omega) (Ev.ifp f3 (Ev.ifp f4 (Ev.ifp f5 (Ev.ifp f6 (Ev.ifp ?_ h))))))
  rw [hexTo_length]
  simp only [List.length_cons, List.length_nil]
  omega
 ·apply Ev.succ
  simp only [spec_l6Hex.l0]
  exact Ev.ifn (by omega) (Ev.now _)
def sha (s : ByteArray) : ByteArray := strOfNums (sumOf shaTab (bytesOf s))
theorem sha_size (s : ByteArray) : (sha s).size = 32 := shaOf_size s
def hashSum (s : ByteArray) : ByteArray := hexOf (sha s)
theorem pu_within (a b c : Int) : impl_within.f a b c = some (decide (b ≤ a ∧ a ≤ c)) := by
 unfold impl_within.f
 by_cases h : a ≥ b
 ·have h' : b ≤ a := h
  simp [h']
 ·have h' : ¬ b ≤ a := h
  simp [h']
theorem pu_l1In (a b c : Int) : spec_l1In.f a b c = some (decide (b ≤ a ∧ a ≤ c)) := by
 unfold spec_l1In.f
 by_cases h : a ≥ b
 ·have h' : b ≤ a := h
  simp [h']
 ·have h' : ¬ b ≤ a := h
  simp [h']
def keyB (a : ByteArray) : Bool := decide ((1 : Int) ≤ (a.size : Int) ∧ (a.size : Int) ≤ 64) && (bt a ((a.size : Int) - 1) != 0)
theorem keyB_size {a : ByteArray} (h : keyB a = true) : 1 ≤ a.size ∧ a.size ≤ 64 := by
 simp only [keyB, Bool.and_eq_true, decide_eq_true_eq] at h
 omega
theorem implKey_eq (a : ByteArray) (w : a.size ≤ 140737488355328) : impl_keyOk.f a = some (keyB a) := by
 unfold impl_keyOk.f keyB
 rw [pu_within]
 simp only [Option.bind_some]
 by_cases h : (1 : Int) ≤ (a.size : Int) ∧ (a.size : Int) ≤ 64
 ·have e : wrap64 ((a.size : Int) - 1) = (a.size : Int) - 1 := wid (by omega) (by omega)
  have c0 : (0 : Int) ≤ (a.size : Int) - 1 := by omega
  have c1 : (a.size : Int) - 1 < (a.size : Int) := by omega
  simp only [e, h, c0, c1, and_self, decide_true, if_true, Bool.true_and]
 ·simp only [h, decide_false, Bool.false_eq_true, if_false, Bool.false_and]
theorem specKey_eq (a : ByteArray) (w : a.size ≤ 140737488355328) : spec_l6Key.f a = some (keyB a) := by
 unfold spec_l6Key.f keyB
 rw [pu_l1In]
 simp only [Option.bind_some]
 by_cases h : (1 : Int) ≤ (a.size : Int) ∧ (a.size : Int) ≤ 64
 ·have e : wrap64 ((a.size : Int) - 1) = (a.size : Int) - 1 := wid (by omega) (by omega)
  have c0 : (0 : Int) ≤ (a.size : Int) - 1 := by omega
  have c1 : (a.size : Int) - 1 < (a.size : Int) := by omega
  simp only [e, h, c0, c1, and_self, decide_true, if_true, Bool.true_and]
 ·simp only [h, decide_false, Bool.false_eq_true, if_false, Bool.false_and]
theorem padB_at (key : ByteArray) (i : Nat) : (padB key).getD i 0 = if i < key.size then bt key (i : Int) else 0 := by
 simp only [padB, List.getD_eq_getElem?_getD]
 by_cases h : i < key.size
 ·rw [List.getElem?_append_left (by rw [bytesOf_length]; exact h), if_pos h, bt_nat, dif_pos h]
  simp [bytesOf, h]
  rfl
 ·rw [List.getElem?_append_right (by rw [bytesOf_length]; omega), if_neg h, List.getElem?_replicate]
  split <;> rfl
theorem pad_ev (key : ByteArray) (c : Int) (hk : key.size ≤ 64) : Ev (fun k => spec_l6Pad.f k key c) (padx key c) := by
 unfold spec_l6Pad.f
 have hl : ((padB key).map fun b => Go.bits .xor .u8 b c).length = 64 := by rw [List.length_map, padB_length _ hk]
 refine fold_loop (g := fun k x i => spec_l6Pad.l0 k key c x i) 64 (fun i => ((padB key).map fun b => Go.bits .xor .u8 b c).take i) _ ?_ ?_
 ·intro i hi h
  apply Ev.succ
  have e4 : wrap64 ((i : Int) + 1) = (i : Int) + 1 := wid (by omega) (by omega)
  have hsn : ((padB key).map fun b => Go.bits .xor .u8 b c).take (i + 1) = ((padB key).map fun b => Go.bits .xor .u8 b c).take i ++ [Go.bits .xor .u8 ((padB key).getD i 0) c] := by
   rw [List.take_succ_eq_append_getElem (by omega)]
   have hi2 : i < (padB key).length := by rw [padB_length _ hk]; exact hi
   simp [List.getD_eq_getElem?_getD, hi2]
  rw [hsn, padB_at] at h
  have hlt : (((padB key).map fun b => Go.bits .xor .u8 b c).take i).length < 140737488355328 := by rw [List.length_take]; omega
  simp only [spec_l6Pad.l0, e4]
  clear e4
  refine Ev.ifp (by omega) ?_
  by_cases hi2 : i < key.size
  ·rw [if_pos hi2] at h
   exact Ev.ifp (by omega) (Ev.ifp (by omega) (Ev.ifp hlt h))
  ·rw [if_neg hi2] at h
   exact Ev.ifn (by omega) (Ev.ifp hlt h)
 ·apply Ev.succ
  simp only [spec_l6Pad.l0]
  refine Ev.ifn (by omega) (Ev.cast (Ev.now _) ?_)
  rw [List.take_of_length_le (by omega)]
  rfl
theorem padx_size (key : ByteArray) (c : Int) (hk : key.size ≤ 64) : (padx key c).size = 64 := by rw [padx, strOfNums_size, List.length_map, padB_length _ hk]
def sealOf (key text : ByteArray) : ByteArray := if keyB key = true then hexOf (hmac key text) else ⟨#[]⟩
theorem implSeal_ev (key text : ByteArray) (hk : key.size ≤ 140737488355328) (ht : text.size ≤ 549755813888) : Ev (fun k => impl_SealOf.f k key text) (sealOf key text) := by
 unfold impl_SealOf.f sealOf
 rw [implKey_eq key hk]
 simp only [Option.bind_some]
 by_cases h : keyB key = true
 ·rw [if_pos h]
  refine Ev.ifp h ?_
  unfold impl_hmacOf.f
  rw [if_pos (keyB_size h).2, if_pos ht]
  simp only [Option.bind_some]
  exact Ev.bind (implHex_ev _ (by rw [hmac, shaOf_size]; decide)) (Ev.now _)
 ·rw [if_neg h]
  exact Ev.ifn h (Ev.now _)
theorem specSeal_ev (key text : ByteArray) (hk : key.size ≤ 140737488355328) (ht : text.size ≤ 549755813888) : Ev (fun k => spec_SealOf.f k key text) (sealOf key text) := by
 unfold spec_SealOf.f sealOf
 rw [specKey_eq key hk]
 simp only [Option.bind_some]
 by_cases h : keyB key = true
 ·rw [if_pos h]
  have hk2 := (keyB_size h).2
  refine Ev.ifp h (Ev.bind (pad_ev key 92 hk2) (Ev.bind (pad_ev key 54 hk2) (Ev.ifp ?_ ?_)))
  ·rw [padx_size _ _ hk2]; omega
  unfold spec_l6Sum.f
  rw [if_pos (show (padx key 54 ++ text).size ≤ 1099511627776 by rw [ByteArray.size_append, padx_size _ _ hk2]; omega)]
  simp only [Option.bind_some]
  refine Ev.ifp ?_ ?_
  ·rw [padx_size _ _ hk2, show (strOfNums (sumOf shaTab (bytesOf (padx key 54 ++ text)))).size = 32 from sha_size _]; decide
  rw [if_pos (show (padx key 92 ++ strOfNums (sumOf shaTab (bytesOf (padx key 54 ++ text)))).size ≤ 1099511627776 by rw [ByteArray.size_append, padx_size _ _ hk2, show (strOfNums (sumOf shaTab (bytesOf (padx key 54 ++ text)))).size = 32 from sha_size _]; decide)]
  simp only [Option.bind_some]
  exact Ev.bind (specHex_ev _ (by rw [show (strOfNums (sumOf shaTab (bytesOf (padx key 92 ++ strOfNums (sumOf shaTab (bytesOf (padx key 54 ++ text))))))).size = 32 from sha_size _]; decide)) (Ev.now _)
 ·rw [if_neg h]
  exact Ev.ifn h (Ev.now _)
end Go.Proofs.YtaakfmpffhfaeaaGreatDoor.M
end
