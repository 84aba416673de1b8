import Derived.Test.YtnjdoinlnbjedaaGreatDoorBReleaseOkx5
import Derived.StillTail
import Derived.Deep.Quiet
import Derived.Shelf.SlicesQ.IndexFunc
import Derived.Ground.SlgfProg
import Derived.Shelf.SlSortCmp.NoneTotal
import Derived.Ground.SlsfProg
import Derived.Test.YtnjdoinlnbjedaaGreatDoorProg
import Derived.Test.YtnjdoinlnbjedaaGreatDoorBReleaseOkx4
import Derived.Lib.SliceRun
import Derived.StillTailTactics
import Derived.Deep.DrawnRows
import Derived.KernelRfl
import Derived.Lib.BufferWrite
import Derived.RegionCalls
import Derived.Sort.LotA
import Derived.Sort.Walk0
import Derived.Laws.Cover1
import Derived.Lib.ItoaLen
import Derived.Lib.ItoaMem

section
/- The reference's block of SHA-256, plain: it is Sha.block. -/
namespace Go.Proofs.YtnjdoinlnbjedaaGreatDoor.M
open Go.RowKit Go.Proofs.YtnjdoinlnbjedaaGreatDoorW.PrintWords Go.Proofs.YtnjdoinlnbjedaaGreatDoorW.PrintMore Go.Proofs.YtnjdoinlnbjedaaGreatDoor.Pu Go.Proofs.YtnjdoinlnbjedaaGreatDoor.Sha
set_option linter.unusedVariables false
set_option linter.unusedSimpArgs false
theorem Ev.add {α : Type} {g : Nat → Option α} {r : α} : ∀ n : Nat, Ev (fun k => g (k + n)) r → Ev g r
 | 0, h => h
 | n + 1, h => Ev.add n (Ev.succ (g := fun k => g (k + n)) (by simpa [Nat.add_right_comm, Nat.add_assoc] using h))
theorem fold_from {α β : Type} {g : Nat → β → Int → Option α} (n i0 : Nat) (F : Nat → β) (r : α) (hi : i0 ≤ n)
  (step : ∀ (i : Nat), i0 ≤ i → i < n → Ev (fun k => g k (F (i + 1)) ((i : Int) + 1)) r → Ev (fun k => g k (F i) (i : Int)) r)
  (done : Ev (fun k => g k (F n) (n : Int)) r) : Ev (fun k => g k (F i0) (i0 : Int)) r := by
 have key : ∀ d i : Nat, n - i = d → i0 ≤ i → i ≤ n → Ev (fun k => g k (F i) (i : Int)) r := by
  intro d
  induction d with
  | zero =>
   intro i hd h0 hi
   obtain rfl : i = n := by omega
   exact done
  | succ d ih =>
   intro i hd h0 hi
   exact step i h0 (by omega) (by exact_mod_cast ih (i + 1) (by omega) (by omega) (by omega))
 exact key (n - i0) i0 rfl (Nat.le_refl _) hi
theorem turn_eq (x n : Int) (h0 : 0 ≤ n) (h1 : n ≤ 32) : spec_l6Turn.f x n = some (rot x n) := by
 have hw : wrap64 (32 - n) = 32 - n := wid (by omega) (by omega)
 unfold spec_l6Turn.f rot
 rw [if_pos h0, hw, if_pos (by omega)]
theorem rd_lit (xs : List Int) (i : Int) (n : Nat) (h : i = (n : Int)) : rd xs i = xs.getD n 0 := by rw [h]; exact rd_nat xs n
theorem getD_rng {xs : List Int} (h : ∀ x ∈ xs, 0 ≤ x ∧ x ≤ 255) (i : Nat) : 0 ≤ xs.getD i 0 ∧ xs.getD i 0 ≤ 255 := by
 rw [List.getD_eq_getElem?_getD]
 cases e : xs[i]? with
 | none => simp
 | some b => exact h b (List.mem_of_getElem? e)
theorem words_ev (b : List Int) (hl : b.length = 64) (hb : ∀ x ∈ b, 0 ≤ x ∧ x ≤ 255) : Ev (fun k => spec_l6Words.f k b) (wpre b 64) := by
 unfold spec_l6Words.f
 refine Ev.ifp (by decide) ?_
 refine fold_from (g := fun k s i => spec_l6Words.l0 k b s i) 16 0 (wpre b) _ (by decide) ?_ ?_
 ·intro i _ hi h
  apply Ev.succ
  have e0 : wrap64 (4 * (i : Int)) = 4 * (i : Int) := wid (by omega) (by omega)
  have e1 : wrap64 (4 * (i : Int) + 1) = 4 * (i : Int) + 1 := wid (by omega) (by omega)
  have e2 : wrap64 (4 * (i : Int) + 2) = 4 * (i : Int) + 2 := wid (by omega) (by omega)
  have e3 : wrap64 (4 * (i : Int) + 3) = 4 * (i : Int) + 3 := wid (by omega) (by omega)
  have e4 : wrap64 ((i : Int) + 1) = (i : Int) + 1 := wid (by omega) (by omega)
  simp only [spec_l6Words.l0, e0, e1, e2, e3, e4]
  clear e0 e1 e2 e3 e4
  refine Ev.ifp (by omega) ?_
  refine Ev.ifp (by omega) ?_
  refine Ev.ifp (by omega) ?_
  refine Ev.ifp (by omega) ?_
  refine Ev.ifp (by omega) ?_
  refine Ev.ifp (by omega) ?_
  refine Ev.ifp (by omega) ?_
  refine Ev.ifp (by omega) ?_
  refine Ev.ifp (by omega) ?_
  refine Ev.ifp (by rw [wpre_length]; omega) ?_
  have g0 := rd_lit b (4 * (i : Int)) (4 * i) (by omega)
  have g1 := rd_lit b (4 * (i : Int) + 1) (4 * i + 1) (by omega)
  have g2 := rd_lit b (4 * (i : Int) + 2) (4 * i + 2) (by omega)
  have g3 := rd_lit b (4 * (i : Int) + 3) (4 * i + 3) (by omega)
  have r0 := getD_rng hb (4 * i)
  have r1 := getD_rng hb (4 * i + 1)
  have r2 := getD_rng hb (4 * i + 2)
  have r3 := getD_rng hb (4 * i + 3)
  rw [g0, g1, g2, g3]
  have hV : wordAt b (wpre b i) i = be (b.getD (4 * i) 0) (b.getD (4 * i + 1) 0) (b.getD (4 * i + 2) 0) (b.getD (4 * i + 3) 0) := wordAt_low _ _ _ hi
  have m0 : b.getD (4 * i) 0 % 4294967296 * 16777216 % 4294967296 = b.getD (4 * i) 0 * 16777216 := by omega
  have m1 : b.getD (4 * i + 1) 0 % 4294967296 * 65536 % 4294967296 = b.getD (4 * i + 1) 0 * 65536 := by omega
  have m2 : b.getD (4 * i + 2) 0 % 4294967296 * 256 % 4294967296 = b.getD (4 * i + 2) 0 * 256 := by omega
  have m3 : b.getD (4 * i + 3) 0 % 4294967296 = b.getD (4 * i + 3) 0 := by omega
  rw [m0, m1, m2, m3]
  have hw : wpre b (i + 1) = wpre b i ++ [wordAt b (wpre b i) i] := rfl
  rw [hw, hV] at h
  exact h
 ·apply Ev.succ
  simp only [spec_l6Words.l0]
  refine Ev.ifn (by decide) ?_
  refine fold_from (g := fun k s i => spec_l6Words.l1 k s i) 64 16 (wpre b) _ (by decide) ?_ ?_
  ·intro i h16 hi h
   apply Ev.succ
   have e0 : wrap64 ((i : Int) - 15) = (i : Int) - 15 := wid (by omega) (by omega)
   have e1 : wrap64 ((i : Int) - 2) = (i : Int) - 2 := wid (by omega) (by omega)
   have e2 : wrap64 ((i : Int) - 16) = (i : Int) - 16 := wid (by omega) (by omega)
   have e3 : wrap64 ((i : Int) - 7) = (i : Int) - 7 := wid (by omega) (by omega)
   have e4 : wrap64 ((i : Int) + 1) = (i : Int) + 1 := wid (by omega) (by omega)
   have hlen := wpre_length b i
   have g0 := rd_lit (wpre b i) ((i : Int) - 15) (i - 15) (by omega)
   have g1 := rd_lit (wpre b i) ((i : Int) - 2) (i - 2) (by omega)
   have g2 := rd_lit (wpre b i) ((i : Int) - 16) (i - 16) (by omega)
   have g3 := rd_lit (wpre b i) ((i : Int) - 7) (i - 7) (by omega)
   simp only [spec_l6Words.l1, e0, e1, e2, e3, e4, g0, g1, g2, g3, turn_eq _ 7 (by decide) (by decide), turn_eq _ 18 (by decide) (by decide), turn_eq _ 17 (by decide) (by decide), turn_eq _ 19 (by decide) (by decide), Option.bind_some]
   clear e0 e1 e2 e3 e4
   refine Ev.ifp (by omega) ?_
   refine Ev.ifp (by omega) ?_
   refine Ev.ifp (by omega) ?_
   refine Ev.ifp (by omega) ?_
   refine Ev.ifp (by omega) ?_
   refine Ev.ifp (by omega) ?_
   refine Ev.ifp (by omega) ?_
   refine Ev.ifp (by omega) ?_
   refine Ev.ifp (by omega) ?_
   refine Ev.ifp (by omega) ?_
   have hV := wordAt_high b (wpre b i) i (by omega)
   have hw : wpre b (i + 1) = wpre b i ++ [wordAt b (wpre b i) i] := rfl
   rw [hw, hV] at h
   have hm : ∀ a c d e : Int, ((a + c) % 4294967296 + d) % 4294967296 + e = ((a + c) % 4294967296 + d) % 4294967296 + e := fun _ _ _ _ => rfl
   have hs : ∀ a c d e : Int, (((a + c) % 4294967296 + d) % 4294967296 + e) % 4294967296 = (a + d + c + e) % 4294967296 := by intro a c d e; omega
   simp only [hs]
   exact h
  ·apply Ev.succ
   simp only [spec_l6Words.l1]
   refine Ev.ifn (by decide) ?_
   exact Ev.now _
theorem shift_eq (x0 x5 x6 : List Int) (x8 t a1 m a b c d e f g h : Int) (k : Nat) :
  spec_l6Block.l1 (k + 8) x0 x5 x6 [a, b, c, d, e, f, g, h] x8 t a1 m 7 = spec_l6Block.l0 k x0 x5 x6 [((t + a1) % 4294967296 + m) % 4294967296, a, b, c, (d + t) % 4294967296, e, f, g] (wrap64 (x8 + 1)) := by
 simp [spec_l6Block.l1, wrap64, rd]
theorem block_ev (h b : List Int) (hh : h.length = 8) (hl : b.length = 64) (hb : ∀ x ∈ b, 0 ≤ x ∧ x ≤ 255) : Ev (fun k => spec_l6Block.f k h b) (block shaTab h b) := by
 unfold spec_l6Block.f
 refine Ev.bind (words_ev b hl hb) ?_
 simp only [spec_l6Consts.f, Option.bind_some, List.nil_append]
 refine Ev.ifp (by simp; omega) ?_
 rw [show ([1116352408, 1899447441, 3049323471, 3921009573, 961987163, 1508970993, 2453635748, 2870763221, 3624381080, 310598401, 607225278, 1426881987, 1925078388, 2162078206, 2614888103, 3248222580, 3835390401, 4022224774, 264347078, 604807628, 770255983, 1249150122, 1555081692, 1996064986, 2554220882, 2821834349, 2952996808, 3210313671, 3336571891, 3584528711, 113926993, 338241895, 666307205, 773529912, 1294757372, 1396182291, 1695183700, 1986661051, 2177026350, 2456956037, 2730485921, 2820302411, 3259730800, 3345764771, 3516065817, 3600352804, 4094571909, 275423344, 430227734, 506948616, 659060556, 883997877, 958139571, 1322822218, 1537002063, 1747873779, 1955562222, 2024104815, 2227730452, 2361852424, 2428436474, 2756734187, 3204031479, 3329325298] : List Int) = shaTab from rfl]
 have hwl := wpre_length b 64
 generalize hW : wpre b 64 = ws at hwl
 have htl : shaTab.length = 64 := rfl
 refine fold_from (g := fun k s i => spec_l6Block.l0 k h ws shaTab s i) 64 0 (rnds shaTab ws h) _ (by decide) ?_ ?_
 ·intro i _ hi hr
  apply Ev.succ
  obtain ⟨y0, y1, y2, y3, y4, y5, y6, y7, hy⟩ := eight (rnds_length shaTab ws h hh i)
  have e4 : wrap64 ((i : Int) + 1) = (i : Int) + 1 := wid (by omega) (by omega)
  have hn : rnds shaTab ws h (i + 1) = rnd (shaTab.getD i 0) (ws.getD i 0) (rnds shaTab ws h i) := rfl
  rw [hn] at hr
  rw [hy] at hr ⊢
  have gk := rd_nat shaTab i
  have gw := rd_nat ws i
  simp only [spec_l6Block.l0, List.length_cons, List.length_nil, gk, gw, turn_eq _ 6 (by decide) (by decide), turn_eq _ 11 (by decide) (by decide), turn_eq _ 25 (by decide) (by decide), turn_eq _ 2 (by decide) (by decide), turn_eq _ 13 (by decide) (by decide), turn_eq _ 22 (by decide) (by decide), Option.bind_some]
  refine Ev.ifp (by omega) ?_
  refine Ev.ifp (by decide) ?_
  refine Ev.ifp (by decide) ?_
  refine Ev.ifp (by decide) ?_
  refine Ev.ifp (by decide) ?_
  refine Ev.ifp (by omega) ?_
  refine Ev.ifp (by omega) ?_
  refine Ev.ifp (by omega) ?_
  refine Ev.ifp (by decide) ?_
  refine Ev.ifp (by decide) ?_
  refine Ev.ifp (by decide) ?_
  refine Ev.add 8 ?_
  simp only [shift_eq, e4]
  have r0 : rd [y0, y1, y2, y3, y4, y5, y6, y7] 0 = y0 := rfl
  have r1 : rd [y0, y1, y2, y3, y4, y5, y6, y7] 1 = y1 := rfl
  have r2 : rd [y0, y1, y2, y3, y4, y5, y6, y7] 2 = y2 := rfl
  have r4 : rd [y0, y1, y2, y3, y4, y5, y6, y7] 4 = y4 := rfl
  have r5 : rd [y0, y1, y2, y3, y4, y5, y6, y7] 5 = y5 := rfl
  have r6 : rd [y0, y1, y2, y3, y4, y5, y6, y7] 6 = y6 := rfl
  have r7 : rd [y0, y1, y2, y3, y4, y5, y6, y7] 7 = y7 := rfl
  simp only [r0, r1, r2, r4, r5, r6, r7]
  have c1 : ∀ p q r s t u v : Int, (((((p + q) % 4294967296 + r) % 4294967296 + s) % 4294967296 + t) % 4294967296 + u) % 4294967296 = (p + q + r + s + t + u) % 4294967296 := by intro p q r s t u v; omega
  have ea : ∀ p q r s t u v : Int, (((((((p + q) % 4294967296 + r) % 4294967296 + s) % 4294967296 + t) % 4294967296 + u) % 4294967296) + v) % 4294967296 = (p + q + r + s + t + (u + v)) % 4294967296 := by intro p q r s t u v; omega
  have ee : ∀ d p q r s t : Int, (d + ((((p + q) % 4294967296 + r) % 4294967296 + s) % 4294967296 + t) % 4294967296) % 4294967296 = (d + (p + q + r + s + t)) % 4294967296 := by intro d p q r s t; omega
  rw [ea, ee]
  exact hr
 ·apply Ev.succ
  simp only [spec_l6Block.l0]
  refine Ev.ifn (by decide) ?_
  have hs := rnds_length shaTab ws h hh 64
  have hB : block shaTab h b = List.zipWith add h (rnds shaTab ws h 64) := by rw [← hW]; rfl
  rw [hB]
  generalize rnds shaTab ws h 64 = st at hs
  have hz : (List.zipWith add h st).length = 8 := by simp [List.length_zipWith]; omega
  refine fold_from (g := fun k s i => spec_l6Block.l2 k h st s i) 8 0 (fun i => (List.zipWith add h st).take i) _ (by decide) ?_ ?_
  ·intro i _ hi hr
   apply Ev.succ
   have e4 : wrap64 ((i : Int) + 1) = (i : Int) + 1 := wid (by omega) (by omega)
   simp only [spec_l6Block.l2, e4]
   clear e4
   refine Ev.ifp (by omega) ?_
   refine Ev.ifp (by omega) ?_
   refine Ev.ifp (by omega) ?_
   refine Ev.ifp (by omega) ?_
   refine Ev.ifp (by rw [List.length_take]; omega) ?_
   have h1 : (List.zipWith add h st).take (i + 1) = (List.zipWith add h st).take i ++ [(rd h (i : Int) + rd st (i : Int)) % 4294967296] := by
    rw [List.take_succ_eq_append_getElem (by omega), List.getElem_zipWith, rd_nat, rd_nat]
    simp [List.getD_eq_getElem?_getD, show i < h.length by omega, show i < st.length by omega, add]
   rw [h1] at hr
   exact hr
  ·apply Ev.succ
   simp only [spec_l6Block.l2]
   refine Ev.ifn (by decide) ?_
   rw [List.take_of_length_le (by omega)]
   exact Ev.now _
end Go.Proofs.YtnjdoinlnbjedaaGreatDoor.M
end

section
/- A region that draws its order, whose operations but the last few read, or call what only draws: one walk in the order of the text serves every order. (Derived.Deep.Quiet's law with a tail, as Derived.StillTail's.) Nothing of any program. -/
namespace Go.Proofs.YtnjdoinlnbjedaaGreatDoor.QT
open Go
section
variable {P : Program} {ops : Array Oper} {md : Region.Mode} {C : World → Prop}
def wpAnyT (P : Program) (md : Region.Mode) (ops : Array Oper) (C : World → Prop) (n : Nat) (L : Array Bool → Act → Prop) : Nat → Array Bool → Act → Prop
 | 0, listed, a => L listed a
 | f + 1, listed, a =>
  Region.ready md ops listed ≠ [] ∧ ∀ i ∈ Region.ready md ops listed, i < n ∧ qOp P ops C i (wpAnyT P md ops C n L f (listed.setIfInBounds i true)) a
theorem wpAny_of_headQ {n g : Nat} {L : Array Bool → Act → Prop} {Q' : Exit → Act → World → Prop} (hL : ∀ listed a w, C w → L listed a → wpAny P md ops Q' g listed a w) :
  ∀ (f : Nat) (listed : Array Bool) (a : Act) (w : World), C w → wpAnyT P md ops C n L f listed a → wpAny P md ops Q' (f + g) listed a w
 | 0, listed, a, w, hw, h => by rw [Nat.zero_add]; exact hL _ _ _ hw h
 | f + 1, listed, a, w, hw, h => by
  rw [show f + 1 + g = (f + g) + 1 by omega]
  exact ⟨fun h0 => absurd h0 h.1, fun i hi => wpOp_of_qOp hw (fun a' w' hw' h' => wpAny_of_headQ hL f _ a' w' hw' h') (h.2 i hi).2⟩
theorem wpAnyT_first {n i : Nat} {oi : Oper} {v : Value} {L : Array Bool → Act → Prop} (hi : ops[i]? = some oi) (hsel : ∀ (j : Nat) (o : Oper) cs b, ops[j]? = some o → o.op ≠ .select cs b)
  (hs : Region.sinkB md ops n = true) (hc : Region.chainB md ops n = true) (hn : n < ops.size) (hin : i < n)
  (hdone : ∀ listed a, L listed a → ∀ j ∈ Region.ready md ops listed, n ≤ j) :
  ∀ (f : Nat) (listed : Array Bool) (a : Act), HeadInv md ops n listed →
   (∀ j oj, ops[j]? = some oj → j ≠ i → listed.getD j true = false → (∀ e ∈ oj.after, Region.binds md e = true → e.on ≠ i) → oi.apart ops oj = true) →
   i ∈ Region.ready md ops listed → YieldsIn P ops C oi v a →
   wpAnyT P md ops C n L f (listed.setIfInBounds i true) (a.put oi.dst v) → wpAnyT P md ops C n L (f + 1) listed a := by
 intro f
 induction f with
 | zero =>
  intro listed a inv _ hr hy H
  have hun := (mem_ready.1 hr).1
  refine ⟨fun h => (by rw [h] at hr; cases hr), fun j hj => ?_⟩
  have hjn : j < n := by
   rcases Nat.lt_or_ge j n with h | h
   ·exact h
   ·exact absurd hj (tail_waits hs hc hn inv _ i rfl hin hun j h)
  refine ⟨hjn, ?_⟩
  by_cases hji : j = i
  ·subst hji; exact hy.qOp hi H
  ·have := hdone _ _ H j (ready_mono hj hji)
   omega
 | succ f ih =>
  intro listed a inv hfree hr hy H
  have hun := (mem_ready.1 hr).1
  refine ⟨fun h => (by rw [h] at hr; cases hr), fun j hj => ?_⟩
  have hjn : j < n := by
   rcases Nat.lt_or_ge j n with h | h
   ·exact h
   ·exact absurd hj (tail_waits hs hc hn inv _ i rfl hin hun j h)
  refine ⟨hjn, ?_⟩
  by_cases hji : j = i
  ·subst hji; exact hy.qOp hi H
  ·have h1 := (H.2 j (ready_mono hj hji)).2
   obtain ⟨hjun, oj, hoj, hall⟩ := mem_ready.1 hj
   have hnot : ∀ e ∈ oj.after, Region.binds md e = true → e.on ≠ i := fun e he hb heq => by
    have h1 := hall e he hb
    rw [heq, getD_both hun] at h1
    cases h1
   have h2 := qOp_put hoj (hfree j oj hoj hji hjun hnot) (fun cs b => hsel i oi cs b hi) (fun cs b => hsel j oj cs b hoj) hy h1
   have hfree' : ∀ k ok, ops[k]? = some ok → k ≠ i → (listed.setIfInBounds j true).getD k true = false →
     (∀ e ∈ ok.after, Region.binds md e = true → e.on ≠ i) → oi.apart ops ok = true := fun k ok hk hki hun hno => by
    refine hfree k ok hk hki ?_ hno
    by_cases hjk : j = k
    ·subst hjk; exact hjun
    ·rw [getD_set_ne true hjk] at hun; exact hun
   refine qOp_mono (fun a' h3 => ih (listed.setIfInBounds j true) a' (inv.set hj hjn) hfree' (ready_mono hr (Ne.symm hji)) h3.1 ?_) h2
   rw [Array.setIfInBounds_comm _ _ hji]
   exact h3.2
theorem wpAnyT_lex {n g : Nat} {Lq : Act → Prop} (hsel : Region.noSelect ops = true) (hs : Region.sinkB md ops n = true) (hc : Region.chainB md ops n = true) (hn : n < ops.size) :
  ∀ (l : List Oper) (k : Nat) (listed : Array Bool) (a : Act), (∀ j, j < l.length → l[j]? = ops[k + j]?) → k + l.length = n → HeadInv md ops n listed →
  Region.lexHead md ops g l.length k listed = true → wpQuiet P ops C Lq l a →
  wpAnyT P md ops C n (fun listed' a' => Region.seqB md ops g n listed' = true ∧ Lq a') l.length listed a
 | [], k, listed, a, _, hk, _, hB, h => by
  have : k = n := by simpa using hk
  subst this
  exact ⟨by simpa [Region.lexHead] using hB, h⟩
 | o :: l, k, listed, a, hl, hk, inv, hB, h => by
  have h0 : ops[k]? = some o := by simpa using (hl 0 (by simp)).symm
  simp only [List.length_cons, Region.lexHead, Bool.and_eq_true] at hB
  obtain ⟨⟨hr, hf⟩, hB'⟩ := hB
  have hkn : k < n := by simp only [List.length_cons] at hk; omega
  have hr' : k ∈ Region.ready md ops listed := by simpa using hr
  have hst : qOp P ops C k (wpQuiet P ops C Lq l) a := by unfold qOp; simp only [h0]; exact h
  obtain ⟨v, hy, hK⟩ := yieldsIn_of_qOp h0 hst
  exact wpAnyT_first h0 (Region.noSelect_spec hsel) hs hc hn hkn (fun listed' a' hL => seqB_ready hL.1) l.length listed a inv (Region.free_spec h0 hf) hr' hy
   (wpAnyT_lex hsel hs hc hn l (k + 1) _ _ (fun j hj => by have := hl (j + 1) (by simp; omega); simpa [Nat.add_assoc, Nat.add_comm 1 j] using this) (by simp only [List.length_cons] at hk; omega) (inv.set hr' hkn) hB' hK)
theorem wp_region_quiet_tail {id : Nat} {Q : Exit → Act → World → Prop} {a : Act} {w : World} {l : List Oper} (n : Nat) (hm : P.follows .mixedOrders = true) (hB : Region.lexTailB .any l.toArray n = true)
  (h : wpQuiet P l.toArray (fun w' => ∃ n, w' = w.drewN n) (fun a' => ∀ w' d, w' = w.drewN d → wpList P l.toArray Q (l.drop n) a' w') (l.take n) a) : (Code.region id l.toArray true).wp P Q a w := by
 simp only [Region.lexTailB, Bool.and_eq_true, decide_eq_true_eq] at hB
 obtain ⟨⟨⟨⟨hsel, hn⟩, hs⟩, hc⟩, hlex⟩ := hB
 have hn' : n < l.length := by simpa using hn
 have htl : (l.take n).length = n := by simp; omega
 have hdl : (l.drop n).length = l.toArray.size - n := by simp
 have inv0 : HeadInv .any l.toArray n (Array.replicate l.toArray.size false) :=
  ⟨by simp, fun j oj _ hl => (by rw [getD_replicate_false] at hl; cases hl), fun t _ ht => getD_in (by simpa using ht) (getD_replicate_false _ _)⟩
 have H := wpAnyT_lex (md := .any) (g := l.toArray.size - n) hsel hs hc hn (l.take n) 0 _ a (fun j hj => by
  have hj' : j < n := by rw [htl] at hj; exact hj
  simp [hj']) (by simpa using htl) inv0 (by rw [htl]; exact hlex) h
 refine wp_region_any hm ?_
 have := wpAny_of_headQ (Q' := Q) (g := l.toArray.size - n) (fun listed a' w' hw' hL => by
  obtain ⟨d, hd⟩ := hw'
  have := wpAny_of_seq (md := .any) (Q' := Q) (l.drop n) n listed a' w' (fun j => by simp [List.getElem?_drop]) (by rw [hdl]; exact hL.1) (hL.2 w' d hd)
  rwa [hdl] at this) _ _ _ _ ⟨1, rfl⟩ H
 rw [htl, show n + (l.toArray.size - n) = l.toArray.size by omega] at this
 exact this
end
end Go.Proofs.YtnjdoinlnbjedaaGreatDoor.QT
end

section
/- spec.l6Sum, walked: it is Sha.sumOf, too. -/
namespace Go.Proofs.YtnjdoinlnbjedaaGreatDoor.M
open Go.RowKit Go.Proofs.YtnjdoinlnbjedaaGreatDoorW.PrintWords Go.Proofs.YtnjdoinlnbjedaaGreatDoorW.PrintLast Go.Proofs.YtnjdoinlnbjedaaGreatDoorW.PrintMore
open Go.Proofs.YtnjdoinlnbjedaaGreatDoor.Buf Go.Proofs.YtnjdoinlnbjedaaGreatDoor.Sha Go.Proofs.YtnjdoinlnbjedaaGreatDoor.Pu
attribute [local go_sem] max2_int min2_int max_two min_two max_three min_three max_four min_four   -- for this text's walks alone
set_option linter.unusedVariables false
theorem sum_range (s : ByteArray) : ∀ x ∈ padded (bytesOf s), 0 ≤ x ∧ x ≤ 255 := by
 intro x hx
 simp only [padded, lenBytes, lenAt, List.mem_append, List.mem_replicate, List.mem_cons, List.not_mem_nil, or_false] at hx
 rcases hx with ((hx | hx) | hx) | hx
 ·simp only [bytesOf, List.mem_map] at hx
  obtain ⟨b, _, rfl⟩ := hx
  have := b.toNat_lt
  omega
 ·omega
 ·omega
 ·rcases hx with hx | hx | hx | hx | hx | hx | hx | hx <;> (rw [hx]; omega)
theorem sum_padlen (xs : List Int) : (padded xs).length ≤ xs.length + 80 := by
 simp only [padded, lenBytes, zeros, List.length_append, List.length_replicate, List.length_cons, List.length_nil]
 omega
theorem c_of_arr {w : World} {g t : Nat} {xs : List Int} (h : Arr w g t xs) (hl : xs.length ≤ 9223372036854775807) : (Kd.int .u32).C w (some ⟨g, 0, none⟩) xs.length xs := by
 refine Kd.C_of_reads (d := (0 : Int)) ⟨rfl, hl, fun hp => ⟨_, rfl, fun j hj => ?_⟩⟩
 have hadd : (⟨g, 0, none⟩ : Addr).add j = ⟨g, j, none⟩ := by unfold Addr.add; split <;> simp_all
 rw [hadd]
 exact h.cell j hj
set_option maxHeartbeats 8000000 in
set_option maxRecDepth 100000 in
theorem sum_calls (s : ByteArray) (w : World) (hs : s.size ≤ 1099511627776) :
  Calls Tryz.prog 91 #[.string s] w fun e w' => e = .returned (.string (strOfNums (sumOf shaTab (bytesOf s)))) ∧ Below w.heap.size w w' := by
 obtain ⟨P, hP⟩ : ∃ P, P = padded (bytesOf s) := ⟨_, rfl⟩
 have hP64 : P.length % 64 = 0 := by rw [hP]; exact padded_length _
 have hPl : P.length ≤ 1099511628000 := by rw [hP]; have := sum_padlen (bytesOf s); rw [bytesOf_length] at this; omega
 have HPR := Aside0.mk (show ∀ x ∈ P, 0 ≤ x ∧ x ≤ 255 by rw [hP]; exact sum_range s)
 have HP := Aside0.mk hP
 have HN := Aside0.mk (show P.length = 64 * (P.length / 64) by omega)
 clear hP hP64
 go_enter Tryz.func91, Tryz.ntmps91
 go_wp2_with (first
  | (go_at_call 136; refine (padded_calls s _ hs).mono ?_; rintro e w1 ⟨v1, rfl, ho1, hb1⟩; rw [← HP.out] at ho1; have HO1 := Aside0.mk (ho1.weaken (show w.heap.size ≤ _ by simp)); have HA1 := Aside0.mk ((Arr.new w 135 H0).below hb1); have HB1 := Aside0.mk (below_step (below_alloc (Below.refl w.heap.size w) _) hb1); clear ho1 hb1))
 obtain ⟨gp, capp, LP, rfl, hLP, hgp0, hLP1, hLP2, hgp1⟩ := HO1.out.form
 subst hLP
 go_loopg [3, 5] (P.length / 64) (fun kq v3 v5 w' => ∃ (i : Nat) (sv : List Int) (A : Option Addr) (c : Nat), v5 = .int .i64 (i : Int) ∧ v3 = .slice A sv.length c ∧ Aside0 (sv.length = 8) ∧ Aside0 (sv.length ≤ c) ∧ Aside0 (i + 64 * kq = P.length) ∧ Aside0 (blocks shaTab kq sv (P.drop i) = blocks shaTab (P.length / 64) H0 P) ∧ Aside0 ((Kd.int .u32).C w' A sv.length sv) ∧ Aside0 (OwnM w' w.heap.size 5 (.slice (some ⟨gp, 0, none⟩) P.length capp) P) ∧ Aside0 (Below w.heap.size w w'))
 case atStart => exact ⟨0, H0, some ⟨w.heap.size, 0, none⟩, 8, rfl, rfl, ⟨rfl⟩, ⟨Nat.le_refl _⟩, ⟨by have := HN.out; omega⟩, ⟨rfl⟩, ⟨c_of_arr HA1.out (by decide)⟩, HO1, HB1⟩
 case round =>
  clear HA1 HB1 HO1
  obtain ⟨i, sv, A, c, rfl, rfl, HH, HC, HI, HBL, HCV, HO, HB⟩ := hrel
  have hszw : w.heap.size ≤ wr.heap.size := HB.out.size
  cases gk with
  | zero =>
   obtain rfl : i = P.length := by have := HI.out; omega
   have hi0 : decide ((P.length : Int) < (P.length : Int)) = false := by simp
   have hi1 : decide (P.length < P.length) = false := by simp
   have HS9 := Aside0.mk (show sv = blocks shaTab (P.length / 64) H0 P from by rw [← HBL.out]; rfl)
   obtain ⟨wb, hwb⟩ : ∃ wb, wb = wr := ⟨_, rfl⟩
   have HCB := Aside0.mk (show (Kd.int .u32).C wb A sv.length sv by rw [hwb]; exact HCV.out)
   have HBB := Aside0.mk (show Below w.heap.size w wb by rw [hwb]; exact HB.out)
   have HWB := Aside0.mk hwb
   clear hwb
   go_wp2_with fail
   go_loopg [6, 7] 8 (fun kq v6 v7 w' => ∃ k : Nat, v7 = .int .i64 (k : Int) ∧ Aside0 (k + kq = 8) ∧ Aside0 (OwnM w' wb.heap.size 5 v6 (out (sv.take k))) ∧ Aside0 (Below wb.heap.size wb w'))
   case atStart => exact ⟨0, rfl, ⟨rfl⟩, ⟨own_empty wr 5 _ (by rw [HWB.out]; exact Nat.le_refl _)⟩, ⟨by rw [HWB.out]; exact below_alloc (Below.refl _ _) _⟩⟩
   case round =>
    clear HB HO HCV hszw
    obtain ⟨k, rfl, HK, HO, HB9⟩ := hrel
    have hszw : wb.heap.size ≤ wr.heap.size := HB9.out.size
    have HCV := Aside0.mk (Kd.C_below HCB.out HB9.out)
    cases gk with
    | zero =>
     obtain rfl : k = 8 := by have := HK.out; omega
     go_wp2_with (first
      | ((with_reducible refine gate_dst (N := 56) rfl ?_); refine str_event wr 22 9 5 rfl (.tmp 55) rfl Tryz.underlying22 Tryz.underlying5 Tryz.underlying9 _ _ rfl HO.out ?_))
     go_ret
     have h8 : sv.take 8 = sv := List.take_of_length_le (by rw [HH.out]; omega)
     refine ⟨?_, below_step HBB.out HB9.out⟩
     rw [h8, HS9.out, HP.out]
     rfl
    | succ k7 =>
     have hk8 : decide ((k : Int) < 8) = true := by have := HK.out; simp; omega
     have hk8' : decide (k < 8) = true := by have := HK.out; simp; omega
     have hkk : k < 8 := by have := HK.out; omega
     obtain ⟨ad, hA0, hx0⟩ := (Kd.reads_of_C (d := (0 : Int)) HCV.out).at_ (k : Int) (by omega) (by rw [HH.out]; omega)
     subst hA0
     have hx0' : wr.cell? (ad.add k) = some (.int .u32 (sv.getD k 0)) := hx0
     have hadb : (ad.add k).block < wb.heap.size := by
      obtain ⟨_, e1, hx1⟩ := (Kd.reads_of_C (d := (0 : Int)) HCB.out).at_ (k : Int) (by omega) (by rw [HH.out]; omega)
      injection e1 with e1
      subst e1
      exact World.block_lt_of_cell? wb _ hx1
     obtain ⟨x9, hx9⟩ : ∃ z, sv.getD k 0 = z := ⟨_, rfl⟩
     rw [hx9] at hx0'
     clear hx0
     have HX9 := Aside0.mk hx9
     clear hx9
     have kp : (0 : Int) ≤ (k : Int) := by omega
     have kq : (k : Int) < (sv.length : Int) := by rw [HH.out]; omega
     have kq' : k < sv.length := by rw [HH.out]; omega
     have u1' : IntKind.u8.wrap (x9 / 16777216) = x9 / 16777216 % 256 := IntKind.wrap_u8 _
     have u2' : IntKind.u8.wrap (x9 / 65536) = x9 / 65536 % 256 := IntKind.wrap_u8 _
     have u3' : IntKind.u8.wrap (x9 / 256) = x9 / 256 % 256 := IntKind.wrap_u8 _
     have u4' : IntKind.u8.wrap x9 = x9 % 256 := IntKind.wrap_u8 _
     go_wp2_with fail
     go_region_held3 (fun w' => w'.cell? (ad.add k) = some (.int .u32 x9)) (first | go_keep | (rw [World.cell?_of_block (hg2.block (ad.add k).block (by simp; omega) (fun e => by have := HO.out.lt _ e.symm; omega))]; go_keep)) ((refine Buf.step_append_M _ wb.heap.size 5 (by rfl) (.tmp 29) (.tmp 53) 22 (by rfl) Tryz.underlying22 info5 _ (out (sv.take k)) (by rfl) ((HO.out.drew).alloc _) _ 4 4 [x9 / 16777216 % 256, x9 / 65536 % 256, x9 / 256 % 256, x9 % 256] (by rfl) rfl (lit_cells _ 5 _ _ rfl) (by rw [out_length, List.length_take]; simp; omega) (by simp; omega) ?_; intro v2 w2 ho2 hg2))
     have HO2 := Aside0.mk ho2
     have HB2 := Aside0.mk ((below_alloc (below_drew1 HB9.out) _).grown hg2 (by simp; omega) (fun k hk => by have := HO.out.lt k hk; omega))
     clear ho2 hg2
     go_wp2_with fail
     go_roundg k7
     case measure => omega
     case rel => exact ⟨k + 1, by go_num, ⟨by have := HK.out; omega⟩, ⟨by rw [← out_take _ _ (by rw [HH.out]; exact hkk), HX9.out]; exact HO2.out⟩, HB2⟩
  | succ k3 =>
   have hi0 : decide ((i : Int) < (P.length : Int)) = true := by have := HI.out; simp; omega
   have hi1 : decide (i < P.length) = true := by have := HI.out; simp; omega
   have hiL : i + 64 ≤ P.length := by have := HI.out; omega
   obtain ⟨i5, hi5, hz5⟩ := Option.map_eq_some_iff.1 info5
   simp only [Prod.mk.injEq] at hz5
   obtain ⟨A', hrun, hread, hcap⟩ := print_mid_int (P := Tryz.prog) (k := .u8) 22 5 Tryz.underlying22 hi5 hz5.2.1 (some ⟨gp, 0, none⟩) capp P (i : Int) ((i : Int) + 64) (by omega) (by omega) (by omega) hLP1
   obtain ⟨sl, hsl⟩ : ∃ sl, (P.take ((i : Int) + 64).toNat).drop ((i : Int)).toNat = sl := ⟨_, rfl⟩
   have hsl2 : sl = (P.drop i).take 64 := by rw [← hsl, show ((i : Int) + 64).toNat = i + 64 by omega, show ((i : Int)).toNat = i by omega, List.take_drop, Nat.add_comm]
   rw [hsl] at hrun hread hcap
   have hrd := hread wr (by obtain ⟨A9, c9, e9, r9⟩ := HO.out.reads; injection e9 with e1 e2 e3; rw [← e1] at r9; exact r9)
   have hll : sl.length = 64 := by rw [hsl2, List.length_take, List.length_drop]; omega
   obtain ⟨K, hK⟩ := block_ev sv sl HH.out hll (fun x hx => HPR.out x (by rw [hsl2] at hx; exact List.mem_of_mem_drop (List.mem_of_mem_take hx)))
   have HF := Aside0.mk (hK K (Nat.le_refl _))
   have HSL := Aside0.mk hsl2
   have HRD := Aside0.mk hrd
   have HCP := Aside0.mk hcap
   clear hsl hsl2 hread hrd hK hll hcap hi5 hz5
   go_wp2_with (first
    | (go_at_call 137; refine (spec_l6Block.calls K A c sv A' _ sl _ _ HCV.out HC.out (Kd.C_of_reads (d := (0 : Int)) HRD.out) HCP.out HF.out).mono ?_; rintro e w9 ⟨v9, rfl, hR9, hb9⟩; obtain ⟨A9, c9, e9, l9, C9⟩ := Kd.R_reads hR9; subst e9; have HC9 := Aside0.mk C9; have HL9 := Aside0.mk l9; have HO9 := Aside0.mk (HO.out.below hb9); have HB9 := Aside0.mk (below_step HB.out hb9); clear hR9 C9 l9 hb9))
   go_roundg k3
   case measure => omega
   case rel => exact ⟨i + 64, block shaTab sv sl, A9, c9, by go_num, rfl, ⟨block_length _ _ _ HH.out⟩, HL9, ⟨by have := HI.out; omega⟩, ⟨by
    rw [← HBL.out, HSL.out, ← List.drop_drop]
    rfl⟩, HC9, HO9, HB9⟩
end Go.Proofs.YtnjdoinlnbjedaaGreatDoor.M
end

section
/- The sum of a text. -/
namespace Go.Proofs.YtnjdoinlnbjedaaGreatDoor.Rf
open Go Go.RowKit Go.Proofs.YtnjdoinlnbjedaaGreatDoorW.PrintWords Go.Proofs.YtnjdoinlnbjedaaGreatDoorW.PrintMore
def qfc (s : ByteArray) : ByteArray := strOfNums (Go.Proofs.YtnjdoinlnbjedaaGreatDoor.Sha.sumOf Go.Proofs.YtnjdoinlnbjedaaGreatDoor.M.shaTab (bytesOf s))
end Go.Proofs.YtnjdoinlnbjedaaGreatDoor.Rf
end

section
/- spec.l6Sum: the sum of a text, by the walk of ShaSum. -/
namespace Go.Proofs.YtnjdoinlnbjedaaGreatDoor.Rf
open Go Go.RowKit
set_option linter.unusedVariables false
set_option linter.unusedSimpArgs false
abbrev q2g.ps : List Par := [⟨.str, .rd⟩]
abbrev q2g.rs : List Res := [⟨.str, .ro, false⟩]
def q2g.F (_ : Nat) (x : ByteArray) : Option ByteArray := if x.size ≤ 1099511627776 then some (qfc x) else none
def q2g.f (k : Nat) (s : ByteArray) : Option ByteArray := q2g.F k s
theorem q2g.can : Can Tryz.prog 91 := q5p (fn := Tryz.f91) (by kernel_rfl) (by kernel_rfl) (by kernel_rfl)
theorem q2g.snd (k : Nat) : Snd Tryz.prog Jp 91 ⟨q2g.ps, q2g.rs, q2g.F k⟩ := by
 refine q7y rfl ?_
 intro (s : ByteArray) r hr ξ w vs wf hj hsz ha
 simp only [q2g.F] at hr
 split at hr
 case isFalse => cases hr
 rename_i h
 obtain rfl := Option.some.inj hr
 obtain ⟨T0, h0⟩ := ha 0 _ _ rfl rfl
 obtain rfl := qa1 hsz (q5q (by simp) h0)
 refine (Go.Proofs.YtnjdoinlnbjedaaGreatDoor.M.sum_calls s w h).mono ?_
 rintro e w' ⟨rfl, hb⟩
 exact ⟨_, Em, rfl, hb, q8u _ _ _ _, fun b hb => hb.elim⟩
end Go.Proofs.YtnjdoinlnbjedaaGreatDoor.Rf
end

section
namespace Go.Proofs.YtnjdoinlnbjedaaGreatDoor.M
open Go.RowKit Go.Proofs.YtnjdoinlnbjedaaGreatDoorW.PrintWords Go.Proofs.YtnjdoinlnbjedaaGreatDoorW.PrintLast Go.Proofs.YtnjdoinlnbjedaaGreatDoorW.PrintMore Go.Proofs.YtnjdoinlnbjedaaGreatDoor.Sq
set_option synthInstance.maxHeartbeats 2000000
set_option synthInstance.maxSize 4096
attribute [local go_sem] max2_int min2_int max_two min_two max_three min_three max_four min_four
set_option linter.unusedVariables false
set_option linter.unusedSimpArgs false
set_option maxHeartbeats 8000000
set_option maxRecDepth 100000
theorem gf93 : Go_ Tryz.prog 93 Tryz.f93 := ⟨Tryz.func93, by kernel_rfl, rfl⟩
def spec_l1Dec.f : Nat → Int → Option (ByteArray)
 | 0, _ => none
 | k + 1, a0 => if a0 < (-9223372036854775807) then (some (⟨#[45, 57, 50, 50, 51, 51, 55, 50, 48, 51, 54, 56, 53, 52, 55, 55, 53, 56, 48, 56]⟩ : ByteArray)) else (if a0 < 0 then ((spec_l1Dec.f k (wrap64 (-a0))).bind fun t101 => (if 1 + t101.size ≤ 9223372036854775807 then (some ((⟨#[45]⟩ : ByteArray) ++ t101)) else (none))) else (if a0 < 10 then (some (strOfNums (([(wrap64 (48 + a0)) % 256] : List Int)))) else ((spec_l1Dec.f k (wrap64 (Int.tdiv a0 10))).bind fun t105 => ((some (([(wrap64 (48 + (Int.tmod a0 10))) % 256] : List Int) : List Int)).bind fun y106 => (if t105.size + (strOfNums y106).size ≤ 9223372036854775807 then (some (t105 ++ (strOfNums y106))) else (none))))))
theorem spec_l1Dec.mono_l : ∀ k, (∀ y0, LeO (spec_l1Dec.f k y0) (spec_l1Dec.f (k + 1) y0))
 | 0 => fun _ r h => by simp [spec_l1Dec.f] at h
 | k + 1 => by
  have ih0 := spec_l1Dec.mono_l k
  ·intro y0
   unfold spec_l1Dec.f
   have I0_ := fun a => LeC.mk (ih0 a)
   exact LeC.out
theorem spec_l1Dec.mono : ∀ a0 k, LeO (spec_l1Dec.f k a0) (spec_l1Dec.f (k + 1) a0) := by
 intro a0 k
 have ih0 := spec_l1Dec.mono_l k
 exact ih0 a0
def spec_l1Dec.T7 : Bool × List (List Nat × List Nat) := (true, [([], []), ([0], [0]), ([1], [1]), ([], []), ([3], [3]), ([4], [4]), ([5], [5]), ([6], [6]), ([7], [7]), ([2, 8], [2, 8]), ([9, 2, 0, 1, 2, 3, 4, 5, 6, 7, 8, 9], [9])])
def spec_l1Dec.B7 : List Nat := [0, 1, 3, 0, 8, 24, 56, 120, 248, 511, 1023]
theorem spec_l1Dec.tab7 : rtab .any (opsOf Tryz.f93 7) = spec_l1Dec.T7 := by kernel_rfl
theorem spec_l1Dec.bits7 : waitsOk spec_l1Dec.T7.2 spec_l1Dec.B7 = true := by kernel_rfl
theorem spec_l1Dec.calls (k : Nat) : ∀ (a0 : Int) (r : ByteArray) (w : World) (h : spec_l1Dec.f k a0 = some r),
  Calls Tryz.prog 93 #[.int .i64 a0] w fun e w' => e = .returned (.string r) ∧ Below w.heap.size w w' := by
 induction k using Nat.strongRecOn with
 | _ k ih =>
 intro a0 r w h
 cases k with
 | zero => exact absurd h (by simp [spec_l1Dec.f])
 | succ k =>
 simp only [spec_l1Dec.f] at h
 have HB := Aside0.mk (Below.refl w.heap.size w)
 have H : (if a0 < (-9223372036854775807) then (some (⟨#[45, 57, 50, 50, 51, 51, 55, 50, 48, 51, 54, 56, 53, 52, 55, 55, 53, 56, 48, 56]⟩ : ByteArray)) else (if a0 < 0 then ((spec_l1Dec.f k (wrap64 (-a0))).bind fun t101 => (if 1 + t101.size ≤ 9223372036854775807 then (some ((⟨#[45]⟩ : ByteArray) ++ t101)) else (none))) else (if a0 < 10 then (some (strOfNums (([(wrap64 (48 + a0)) % 256] : List Int)))) else ((spec_l1Dec.f k (wrap64 (Int.tdiv a0 10))).bind fun t105 => ((some (([(wrap64 (48 + (Int.tmod a0 10))) % 256] : List Int) : List Int)).bind fun y106 => (if t105.size + (strOfNums y106).size ≤ 9223372036854775807 then (some (t105 ++ (strOfNums y106))) else (none))))))) = some r := h
 clear h
 by_cases c2 : a0 < (-9223372036854775807)
 ·rw [if_pos c2] at H
  have c2b0 := decide_eq_true c2
  clear c2
  obtain rfl := Option.some.inj H
  go_enter Tryz.func93, Tryz.ntmps93
  go_wp2
  go_ret
  exact ⟨by rfl, bx HB.out⟩
 ·rw [if_neg c2] at H
  have c2b0 := decide_eq_false c2
  clear c2
  by_cases c3 : a0 < 0
  ·rw [if_pos c3] at H
   have c3b0 := decide_eq_true c3
   clear c3
   replace H := Option.bind_eq_some_iff.mp H
   obtain ⟨t101, A40, H⟩ := H
   have A4 := Aside0.mk A40
   clear A40
   have c5 := ite_y H
   replace H := ite_t H
   have c5b0 := eq_true c5
   have c5b1 := decide_eq_true c5
   try have c5b2 : (9223372036854775807 < 1 + t101.size) = False := eq_false (Nat.not_lt.2 c5)
   obtain rfl := Option.some.inj H
   go_enter Tryz.func93, Tryz.ntmps93
   go_wp2_with (first | ((with_reducible refine gate_callee (f := 93) rfl ?_); refine goL (some 9) rfl rfl gf93 #[.int .i64 (wrap64 (-a0))] rfl rfl ?_; (with_reducible refine (ih k (by omega) (wrap64 (-a0)) t101 _ A4.out).mono ?_); rintro e w6 ⟨rfl, hb⟩; refine ⟨_, rfl, ?_⟩; replace HB := kB HB hb; (try clear hb); (try clear hb2); (try clear hk); (try clear hi)))
   go_ret
   exact ⟨by rfl, bx HB.out⟩
  ·rw [if_neg c3] at H
   have c3b0 := decide_eq_false c3
   clear c3
   by_cases c7 : a0 < 10
   ·rw [if_pos c7] at H
    have c7b0 := decide_eq_true c7
    clear c7
    obtain ⟨y102, hy102⟩ : ∃ y_ : List Int, y_ = (([(wrap64 (48 + a0)) % 256] : List Int)) := ⟨_, rfl⟩
    first | replace H := bind_y hy102 H | rw [← hy102] at H
    have Ny102 := Aside0.mk hy102
    clear hy102
    obtain rfl := Option.some.inj H
    go_enter Tryz.func93, Tryz.ntmps93
    go_wp2_with (first | ((with_reducible refine gate_dst (N := 16) rfl ?_); refine Kd.R_lit (Kd.int .u8) _ 5 ?hg (N := 16) ?hd (xs := ([(wrap64 (48 + a0)) % 256] : List Int)) (inner := [.int .u8 ((wrap64 (48 + a0)) % 256)]) (ok := fun _ => True) (okp := fun _ => True) ?hr ?hp (fun _ hk => hk) trivial (Below.refl _ _) (Nat.le_refl _) (by simp) ?_; (case hd => rfl); (case hg => rfl); (case hr => first | (go_simp; done) | (go_simp; rfl)); (case hp => exact (Reps.one (show Kd.M (Kd.int .u8) _ _ _ ((wrap64 (48 + a0)) % 256) [.int .u8 ((wrap64 (48 + a0)) % 256)] from rfl) (Reps.none _ _))); intro v103 w8 ho9 hb hg_ hnew_; clear hg_ hnew_; (first | rw [← Ny102.out] at ho9 | (simp only [Int.reduceToNat] at ho9; rw [← Ny102.out] at ho9)); have HO104 := Aside0.mk (Kd.R_lower ho9 (bz HB.out)); replace HB := kB HB hb; clear hb ho9; have hcv10 := own_string (P := Tryz.prog) Tryz.underlying22 Tryz.underlying5 Tryz.underlying9 (Kd.own_of_R HO104.out)))
    go_ret
    exact ⟨by rfl, bx HB.out⟩
   ·rw [if_neg c7] at H
    have c7b0 := decide_eq_false c7
    clear c7
    replace H := Option.bind_eq_some_iff.mp H
    obtain ⟨t105, A110, H⟩ := H
    have A11 := Aside0.mk A110
    clear A110
    obtain ⟨y106, hy106⟩ : ∃ y_ : List Int, y_ = (([(wrap64 (48 + (Int.tmod a0 10))) % 256] : List Int)) := ⟨_, rfl⟩
    first | replace H := bind_y hy106 H | rw [← hy106] at H
    have Ny106 := Aside0.mk hy106
    clear hy106
    have c12 := ite_y H
    replace H := ite_t H
    have c12b0 := eq_true c12
    have c12b1 := decide_eq_true c12
    try have c12b2 : (9223372036854775807 < t105.size + (strOfNums y106).size) = False := eq_false (Nat.not_lt.2 c12)
    obtain rfl := Option.some.inj H
    go_enter Tryz.func93, Tryz.ntmps93
    try go_wp2
    replace HB := Aside0.mk (below_drew1 HB.out)
    refine start_ (n := 11) (S := fun w' => True) (ds := []) _ (by kernel_rfl) rfl rfl trivial (fun hHeld => ?_); refine with_tabW spec_l1Dec.tab7 spec_l1Dec.bits7 (fun HT_ HW_ => ?_)
    generalize w.drew = w13 at HB hHeld ⊢
    refine ord_ [.p 0 18, .p 1 19, .p 3 21, .p 4 22, .p 5 23, .p 6 24] ?_
    repeat (refine pu_ (v := ?_) (a' := ?_) HT_ rfl rfl (by kernel_rfl) (fun _ _ _ h => h) (by rfl) ?_ ?_ ?_; rotate_left 2; (intro w'; go_simp; with_reducible rfl); (simp only [pL, pN, s0_, s1_, i64_w, i32_w]; rfl))
    refine ord0 ?_
    refine join_ (σ := Value) 2 #[true, true, true, true, true, true, true, true, true, false, false] (fun s_ => [(20, .string t105), (25, s_), (26, .string (strOfNums y106))]) (fun s_ w' => (Kd.R (Kd.int .u8) 5 w' w.heap.size (fun _ => True) s_ y106) ∧ (Below w.heap.size w w')) ?_ ?_
    rotate_left
    ·intro hCont
     refine two_ (i := 2) (j := 7) (Ni := some 20) (Nj := some 25) #[true, true, true, true, true, true, true, false, false, false, false] #[true, true, false, true, true, true, true, true, false, false, false] rfl rfl rfl rfl (two_of HT_.out (by kernel_rfl)) (by decide) (by decide) (fun K hK => ?_) (fun K hK => ?_)
     ·skip
      refine goM gf93 #[.int .i64 (wrap64 (Int.tdiv a0 10))] (by rfl) rfl rfl rfl ?_
      with_reducible refine (ih k (by omega) (wrap64 (Int.tdiv a0 10)) t105 _ A11.out).mono ?_
      rintro e w14 ⟨rfl, hb⟩
      refine ⟨_, rfl, ?_⟩
      replace HB := kB HB hb
      (try clear hb)
      (try clear hb2)
      (try clear hk)
      (try clear hi)
      refine hK.out _ _ trivial (fun hHeld => ?_)
      clear hK K
      refine norm_ (a' := ?_) ?_ ?_
      rotate_left
      ·show Act.put _ (some 20) _ = _
       simp only [pL, pN, s0_, s1_, i64_w, i32_w]
       rfl
      refine on_ (i := 7) (N := some 25) HT_ rfl rfl (by kernel_rfl) (by decide) (fun K hK => ?_)
      refine Kd.R_lit_step (Kd.int .u8) _ 5 ?hg (N := 25) ?hd (xs := ([(wrap64 (48 + (Int.tmod a0 10))) % 256] : List Int)) (inner := [.int .u8 ((wrap64 (48 + (Int.tmod a0 10))) % 256)]) (ok := fun _ => True) (okp := fun _ => True) ?hr ?hp (fun _ hk => hk) trivial (Below.refl _ _) (Nat.le_refl _) (by simp) ?_; (case hd => rfl); (case hg => rfl); (case hr => first | (go_simp; done) | (go_simp; rfl)); (case hp => exact (Reps.one (show Kd.M (Kd.int .u8) _ _ _ ((wrap64 (48 + (Int.tmod a0 10))) % 256) [.int .u8 ((wrap64 (48 + (Int.tmod a0 10))) % 256)] from rfl) (Reps.none _ _)))
      intro v107 w15 ho16 hb hg_ hnew_
      clear hg_ hnew_
      (first | rw [← Ny106.out] at ho16 | (simp only [Int.reduceToNat] at ho16; rw [← Ny106.out] at ho16))
      have HO108 := Aside0.mk (Kd.R_lower ho16 (bz HB.out))
      replace HB := kB HB hb
      clear hb ho16
      refine hK.out _ _ trivial (fun hHeld => ?_)
      clear hK K
      refine norm_ (a' := ?_) ?_ ?_
      rotate_left
      ·show Act.put _ (some 25) _ = _
       simp only [pL, pN, s0_, s1_, i64_w, i32_w]
       rfl
      refine on_ (i := 8) (N := some 26) HT_ rfl rfl (by kernel_rfl) (by decide) (fun K hK => ?_)
      have hcv17 := own_string (P := Tryz.prog) Tryz.underlying22 Tryz.underlying5 Tryz.underlying9 (Kd.own_of_R HO108.out)
      refine value_ (w1 := ?_) (v := ?_) (by rfl) rfl ?_ ?_
      rotate_left 2
      ·go_simp
       constructor
       ·rfl
       ·rfl
      clear hcv17
      refine hK.out _ _ trivial (fun hHeld => ?_)
      clear hK K
      refine norm_ (a' := ?_) ?_ ?_
      rotate_left
      ·show Act.put _ (some 26) _ = _
       simp only [pL, pN, s0_, s1_, i64_w, i32_w]
       rfl
      exact norm_ (by simp only [putAll, Act.put, List.setIfInBounds_toArray, List.set_cons_zero, List.set_cons_succ]) (hCont (v107) _ ⟨(rx HO108.out), (bx HB.out)⟩)
     ·skip
      refine Kd.R_lit_step (Kd.int .u8) _ 5 ?hg (N := 25) ?hd (xs := ([(wrap64 (48 + (Int.tmod a0 10))) % 256] : List Int)) (inner := [.int .u8 ((wrap64 (48 + (Int.tmod a0 10))) % 256)]) (ok := fun _ => True) (okp := fun _ => True) ?hr ?hp (fun _ hk => hk) trivial (Below.refl _ _) (Nat.le_refl _) (by simp) ?_; (case hd => rfl); (case hg => rfl); (case hr => first | (go_simp; done) | (go_simp; rfl)); (case hp => exact (Reps.one (show Kd.M (Kd.int .u8) _ _ _ ((wrap64 (48 + (Int.tmod a0 10))) % 256) [.int .u8 ((wrap64 (48 + (Int.tmod a0 10))) % 256)] from rfl) (Reps.none _ _)))
      intro v107 w14 ho15 hb hg_ hnew_
      clear hg_ hnew_
      (first | rw [← Ny106.out] at ho15 | (simp only [Int.reduceToNat] at ho15; rw [← Ny106.out] at ho15))
      have HO108 := Aside0.mk (Kd.R_lower ho15 (bz HB.out))
      replace HB := kB HB hb
      clear hb ho15
      refine hK.out _ _ trivial (fun hHeld => ?_)
      clear hK K
      refine norm_ (a' := ?_) ?_ ?_
      rotate_left
      ·show Act.put _ (some 25) _ = _
       simp only [pL, pN, s0_, s1_, i64_w, i32_w]
       rfl
      refine two_ (i := 2) (j := 8) (Ni := some 20) (Nj := some 26) #[true, true, true, true, true, true, true, true, false, false, false] #[true, true, false, true, true, true, true, true, true, false, false] rfl rfl rfl rfl (two_of HT_.out (by kernel_rfl)) (by decide) (by decide) (fun K hK => ?_) (fun K hK => ?_)
      ·skip
       refine goM gf93 #[.int .i64 (wrap64 (Int.tdiv a0 10))] (by rfl) rfl rfl rfl ?_
       with_reducible refine (ih k (by omega) (wrap64 (Int.tdiv a0 10)) t105 _ A11.out).mono ?_
       rintro e w16 ⟨rfl, hb⟩
       refine ⟨_, rfl, ?_⟩
       replace HO108 := kR HO108 hb
       replace HB := kB HB hb
       (try clear hb)
       (try clear hb2)
       (try clear hk)
       (try clear hi)
       refine hK.out _ _ trivial (fun hHeld => ?_)
       clear hK K
       refine norm_ (a' := ?_) ?_ ?_
       rotate_left
       ·show Act.put _ (some 20) _ = _
        simp only [pL, pN, s0_, s1_, i64_w, i32_w]
        rfl
       refine on_ (i := 8) (N := some 26) HT_ rfl rfl (by kernel_rfl) (by decide) (fun K hK => ?_)
       have hcv17 := own_string (P := Tryz.prog) Tryz.underlying22 Tryz.underlying5 Tryz.underlying9 (Kd.own_of_R HO108.out)
       refine value_ (w1 := ?_) (v := ?_) (by rfl) rfl ?_ ?_
       rotate_left 2
       ·go_simp
        constructor
        ·rfl
        ·rfl
       clear hcv17
       refine hK.out _ _ trivial (fun hHeld => ?_)
       clear hK K
       refine norm_ (a' := ?_) ?_ ?_
       rotate_left
       ·show Act.put _ (some 26) _ = _
        simp only [pL, pN, s0_, s1_, i64_w, i32_w]
        rfl
       exact norm_ (by simp only [putAll, Act.put, List.setIfInBounds_toArray, List.set_cons_zero, List.set_cons_succ]) (hCont (v107) _ ⟨(rx HO108.out), (bx HB.out)⟩)
      ·skip
       have hcv16 := own_string (P := Tryz.prog) Tryz.underlying22 Tryz.underlying5 Tryz.underlying9 (Kd.own_of_R HO108.out)
       refine value_ (w1 := ?_) (v := ?_) (by rfl) rfl ?_ ?_
       rotate_left 2
       ·go_simp
        constructor
        ·rfl
        ·rfl
       clear hcv16
       refine hK.out _ _ trivial (fun hHeld => ?_)
       clear hK K
       refine norm_ (a' := ?_) ?_ ?_
       rotate_left
       ·show Act.put _ (some 26) _ = _
        simp only [pL, pN, s0_, s1_, i64_w, i32_w]
        rfl
       refine on_ (i := 2) (N := some 20) HT_ rfl rfl (by kernel_rfl) (by decide) (fun K hK => ?_)
       refine goM gf93 #[.int .i64 (wrap64 (Int.tdiv a0 10))] (by rfl) rfl rfl rfl ?_
       with_reducible refine (ih k (by omega) (wrap64 (Int.tdiv a0 10)) t105 _ A11.out).mono ?_
       rintro e w17 ⟨rfl, hb⟩
       refine ⟨_, rfl, ?_⟩
       replace HO108 := kR HO108 hb
       replace HB := kB HB hb
       (try clear hb)
       (try clear hb2)
       (try clear hk)
       (try clear hi)
       refine hK.out _ _ trivial (fun hHeld => ?_)
       clear hK K
       refine norm_ (a' := ?_) ?_ ?_
       rotate_left
       ·show Act.put _ (some 20) _ = _
        simp only [pL, pN, s0_, s1_, i64_w, i32_w]
        rfl
       exact norm_ (by simp only [putAll, Act.put, List.setIfInBounds_toArray, List.set_cons_zero, List.set_cons_succ]) (hCont (v107) _ ⟨(rx HO108.out), (bx HB.out)⟩)
    rintro v107 w18 ⟨h0_, h1_⟩
    have n0_ : Aside0 (Kd.R (Kd.int .u8) 5 w18 w.heap.size (fun _ => True) v107 y106) := ⟨h0_⟩
    have n1_ : Aside0 (Below w.heap.size w w18) := ⟨h1_⟩
    clear HB
    clear h0_ h1_
    have HO108 := n0_
    have HB := n1_
    clear n0_ n1_
    have hHeld := trivial
    refine norm_ (a' := ?_) ?_ ?_
    rotate_left
    ·simp only [putAll, Act.put, List.setIfInBounds_toArray, List.set_cons_zero, List.set_cons_succ]
     rfl
    refine ord_ [.p 9 27, .p 10 2] ?_
    repeat (refine pu_ (v := ?_) (a' := ?_) HT_ rfl rfl (by kernel_rfl) (fun _ _ _ h => h) (by rfl) ?_ ?_ ?_; rotate_left 2; (intro w'; go_simp; with_reducible rfl); (simp only [pL, pN, s0_, s1_, i64_w, i32_w]; rfl))
    refine ord0 ?_
    refine done_ (done_of HT_.out (by kernel_rfl)) ?_
    try go_wp2
    go_ret
    exact ⟨by rfl, bx HB.out⟩
end Go.Proofs.YtnjdoinlnbjedaaGreatDoor.M
end

section
/- spec.l1Dec: the printed contract of the old road. -/
namespace Go.Proofs.YtnjdoinlnbjedaaGreatDoor.Rf
open Go Go.RowKit
set_option linter.unusedVariables false
set_option linter.unusedSimpArgs false
abbrev spec_l1Dec.ps : List Par := [⟨.int .i64, .rd⟩]
abbrev spec_l1Dec.rs : List Res := [⟨.str, .ro, false⟩]
def spec_l1Dec.F (k : Nat) (x : Int) : Option ByteArray := Go.Proofs.YtnjdoinlnbjedaaGreatDoor.M.spec_l1Dec.f k x
def spec_l1Dec.f (k : Nat) (n : Int) : Option ByteArray := spec_l1Dec.F k n
theorem spec_l1Dec.can : Can Tryz.prog 93 := q5p (fn := Tryz.f93) (by kernel_rfl) (by kernel_rfl) (by kernel_rfl)
theorem spec_l1Dec.snd (k : Nat) : Snd Tryz.prog Jp 93 ⟨spec_l1Dec.ps, spec_l1Dec.rs, spec_l1Dec.F k⟩ := by
 refine q7y rfl ?_
 intro (n : Int) r hr ξ w vs wf hj hsz ha
 obtain ⟨T0, h0⟩ := ha 0 _ _ rfl rfl
 obtain rfl := qa1 hsz (qgj (by simp) h0)
 refine (Go.Proofs.YtnjdoinlnbjedaaGreatDoor.M.spec_l1Dec.calls k n r w hr).mono ?_
 rintro e w' ⟨rfl, hb⟩
 exact ⟨_, Em, rfl, hb, q8u _ _ _ _, fun b hb => hb.elim⟩
end Go.Proofs.YtnjdoinlnbjedaaGreatDoor.Rf
end

section
/- Functions of the program, told plainly, and their contracts: part A1. -/
namespace Go.Proofs.YtnjdoinlnbjedaaGreatDoor.Rf
open Go Go.RowKit
set_option linter.unusedVariables false
noncomputable section
def q0d.C (k : Nat) : CEs := []
abbrev q0d.ps : List Par := [⟨t90, .rd⟩]
abbrev q0d.rs : List Res := [⟨.str, .ro, false⟩]
def q0d.H : q30 := [(4, [(1, .ro), (3, .ro)])]
def q0d.F := q37 E q0d.C q0d.H Tryz.f99 q0d.ps q0d.rs
def q0d.J4 (k : Nat) (x1 : Aff) (x3 : ByteArray) : Option (ByteArray) := atJ E q0d.C q0d.H Tryz.f99 q0d.ps q0d.rs [true, true, true] 0 [] k (sh 23 [(1, .box t90 x1 .ro none), (3, .d .str x3 .ro)])
def q0d.f (k : Nat) (x0 : Aff) : Option (ByteArray) := q0d.F k x0
theorem q0d.f_eq (k : Nat) (x0 : Aff) : q0d.f k x0 = ifb x0.2.1 (q0d.J4 k x0 (⟨#[102, 114, 111, 110, 116]⟩ : ByteArray)) (q0d.J4 k x0 (⟨#[101, 110, 100]⟩ : ByteArray)) := by kernel_rfl
theorem q0d.J4_eq (k : Nat) (x1 : Aff) (x3 : ByteArray) : q0d.J4 (k + 1) x1 x3 = ifb (q3n (x3.size + (⟨#[32]⟩ : ByteArray).size)) (ifb (q3n ((x3 ++ (⟨#[32]⟩ : ByteArray)).size + x1.1.size)) (ifb (q3n (((x3 ++ (⟨#[32]⟩ : ByteArray)) ++ x1.1).size + (⟨#[32]⟩ : ByteArray).size)) (ifb (q3n ((((x3 ++ (⟨#[32]⟩ : ByteArray)) ++ x1.1) ++ (⟨#[32]⟩ : ByteArray)).size + x1.2.2.1.size)) (ifb (q3n (((((x3 ++ (⟨#[32]⟩ : ByteArray)) ++ x1.1) ++ (⟨#[32]⟩ : ByteArray)) ++ x1.2.2.1).size + (⟨#[32]⟩ : ByteArray).size)) (ifb (q3n ((((((x3 ++ (⟨#[32]⟩ : ByteArray)) ++ x1.1) ++ (⟨#[32]⟩ : ByteArray)) ++ x1.2.2.1) ++ (⟨#[32]⟩ : ByteArray)).size + x1.2.2.2.1.size)) (ifb (q3n (((((((x3 ++ (⟨#[32]⟩ : ByteArray)) ++ x1.1) ++ (⟨#[32]⟩ : ByteArray)) ++ x1.2.2.1) ++ (⟨#[32]⟩ : ByteArray)) ++ x1.2.2.2.1).size + (⟨#[32]⟩ : ByteArray).size)) (ifb (q3n ((((((((x3 ++ (⟨#[32]⟩ : ByteArray)) ++ x1.1) ++ (⟨#[32]⟩ : ByteArray)) ++ x1.2.2.1) ++ (⟨#[32]⟩ : ByteArray)) ++ x1.2.2.2.1) ++ (⟨#[32]⟩ : ByteArray)).size + x1.2.2.2.2.size)) (some ((((((((x3 ++ (⟨#[32]⟩ : ByteArray)) ++ x1.1) ++ (⟨#[32]⟩ : ByteArray)) ++ x1.2.2.1) ++ (⟨#[32]⟩ : ByteArray)) ++ x1.2.2.2.1) ++ (⟨#[32]⟩ : ByteArray)) ++ x1.2.2.2.2)) (none)) (none)) (none)) (none)) (none)) (none)) (none)) (none) := by kernel_rfl
abbrev q0d.e (k : Nat) : FuncId × CE := (99, ⟨q0d.ps, q0d.rs, q0d.F k⟩)
theorem q0d.q (k : Nat) : Qs (q0d.e k) := qq (C := q0d.C) (fun k => .nil) k
def q1b.C (k : Nat) : CEs := []
abbrev q1b.ps : List Par := [⟨t92, .rd⟩]
abbrev q1b.rs : List Res := [⟨.str, .ro, false⟩]
def q1b.F := q37 E q1b.C [] Tryz.f100 q1b.ps q1b.rs
def q1b.f (k : Nat) (x0 : ByteArray × ByteArray) : Option (ByteArray) := q1b.F k x0
theorem q1b.f_eq (k : Nat) (x0 : ByteArray × ByteArray) : q1b.f k x0 = ifb (x0.2.toList == bz.toList) (some x0.1) (ifb (q3n (x0.1.size + (⟨#[47]⟩ : ByteArray).size)) (ifb (q3n ((x0.1 ++ (⟨#[47]⟩ : ByteArray)).size + x0.2.size)) (some ((x0.1 ++ (⟨#[47]⟩ : ByteArray)) ++ x0.2)) (none)) (none)) := by kernel_rfl
abbrev q1b.e (k : Nat) : FuncId × CE := (100, ⟨q1b.ps, q1b.rs, q1b.F k⟩)
theorem q1b.q (k : Nat) : Qs (q1b.e k) := qq (C := q1b.C) (fun k => .nil) k
def q17.C (k : Nat) : CEs := [q0d.e k, q1b.e k]
abbrev q17.ps : List Par := [⟨t38, .rd⟩]
abbrev q17.rs : List Res := [⟨.str, .ro, false⟩]
def q17.H : q30 := [(3, [(1, .ro), (3, .ro), (4, .ro)]), (7, [(1, .ro), (3, .ro), (5, .ro)])]
def q17.F := q37 E q17.C q17.H Tryz.f50 q17.ps q17.rs
def q17.L3 (k k1 : Nat) (x1 : Book) (x3 : ByteArray) (x4 : Int) : Option (ByteArray) := atL E q17.C q17.H Tryz.f50 q17.ps q17.rs [true, true, false, true, true] k [] k1 (sh 39 [(1, .box t38 x1 .ro none), (3, .d .str x3 .ro), (4, .d (.int .i64) x4 .ro)])
def q17.L7 (k k1 : Nat) (x1 : Book) (x3 : ByteArray) (x5 : Int) : Option (ByteArray) := atL E q17.C q17.H Tryz.f50 q17.ps q17.rs [true, true, true, false, true, true] k [] k1 (sh 39 [(1, .box t38 x1 .ro none), (3, .d .str x3 .ro), (5, .d (.int .i64) x5 .ro)])
def q17.f (k : Nat) (x0 : Book) : Option (ByteArray) := q17.F k x0
theorem q17.f_eq (k : Nat) (x0 : Book) : q17.f k x0 = q17.L3 k k x0 bz (0 : Int) := by kernel_rfl
theorem q17.L3_eq (k k1 : Nat) (x1 : Book) (x3 : ByteArray) (x4 : Int) : q17.L3 k (k1 + 1) x1 x3 x4 = ifb (decide (x4 < (x1.1.length : Int))) (ifb (decide (0 ≤ x4) && decide (x4 < (x1.1.length : Int))) ((q0d.f k1 (x1.1.getD x4.toNat zA)).bind fun (r0 : ByteArray) => ifb (q3n (x3.size + r0.size)) (ifb (q3n ((x3 ++ r0).size + (⟨#[10]⟩ : ByteArray).size)) (q17.L3 k k1 x1 ((x3 ++ r0) ++ (⟨#[10]⟩ : ByteArray)) (w64 (x4 + 1))) (none)) (none)) (none)) (q17.L7 k k x1 x3 (0 : Int)) := by kernel_rfl
theorem q17.L7_eq (k k1 : Nat) (x1 : Book) (x3 : ByteArray) (x5 : Int) : q17.L7 k (k1 + 1) x1 x3 x5 = ifb (decide (x5 < (x1.2.length : Int))) (ifb (decide (0 ≤ x5) && decide (x5 < (x1.2.length : Int))) ((q1b.f k1 (x1.2.getD x5.toNat zE)).bind fun (r1 : ByteArray) => ifb (q3n (x3.size + r1.size)) (ifb (q3n ((x3 ++ r1).size + (⟨#[10]⟩ : ByteArray).size)) (q17.L7 k k1 x1 ((x3 ++ r1) ++ (⟨#[10]⟩ : ByteArray)) (w64 (x5 + 1))) (none)) (none)) (none)) (some x3) := by kernel_rfl
abbrev q17.e (k : Nat) : FuncId × CE := (50, ⟨q17.ps, q17.rs, q17.F k⟩)
theorem q17.q (k : Nat) : Qs (q17.e k) := qq (C := q17.C) (fun k => .c (q0d.q k) <| .c (q1b.q k) <| .nil) k
def q1h.C (k : Nat) : CEs := []
abbrev q1h.ps : List Par := [⟨.str, .rd⟩]
abbrev q1h.rs : List Res := [⟨.str, .ro, false⟩]
def q1h.H : q30 := [(4, [(0, .ro), (3, .ro), (4, (.own .ro)), (5, .ro)])]
def q1h.F := q37 E q1h.C q1h.H Tryz.f90 q1h.ps q1h.rs
def q1h.L4 (k k1 : Nat) (x0 : ByteArray) (x3 : ByteArray) (x4 : List Int) (x5 : Int) : Option (ByteArray) := atL E q1h.C q1h.H Tryz.f90 q1h.ps q1h.rs [true, true, true, false, true, true] k [] k1 (sh 30 [(0, .d .str x0 .ro), (3, .d .str x3 .ro), (4, .d t22 x4 (.own .ro)), (5, .d (.int .i64) x5 .ro)])
def q1h.f (k : Nat) (x0 : ByteArray) : Option (ByteArray) := q1h.F k x0
theorem q1h.f_eq (k : Nat) (x0 : ByteArray) : q1h.f k x0 = q1h.L4 k k x0 (⟨#[48, 49, 50, 51, 52, 53, 54, 55, 56, 57, 97, 98, 99, 100, 101, 102]⟩ : ByteArray) ([] : List Int) (0 : Int) := by kernel_rfl
theorem q1h.L4_eq (k k1 : Nat) (x0 : ByteArray) (x3 : ByteArray) (x4 : List Int) (x5 : Int) : q1h.L4 k (k1 + 1) x0 x3 x4 x5 = ifb (decide (x5 < (x0.size : Int))) (ifb (decide (0 ≤ x5) && decide (x5 < (x0.size : Int))) (ifb (decide ((16 : Int) ≠ 0)) (ifb (decide (0 ≤ (IntKind.u8.wrap ((q1u x0 x5).tdiv (16 : Int)))) && decide ((IntKind.u8.wrap ((q1u x0 x5).tdiv (16 : Int))) < (x3.size : Int))) (ifb (decide (0 ≤ x5) && decide (x5 < (x0.size : Int))) (ifb (decide ((16 : Int) ≠ 0)) (ifb (decide (0 ≤ ((q1u x0 x5).tmod (16 : Int))) && decide (((q1u x0 x5).tmod (16 : Int)) < (x3.size : Int))) (ifb (decide ((x4.length + [(q1u x3 (IntKind.u8.wrap ((q1u x0 x5).tdiv (16 : Int)))), (q1u x3 ((q1u x0 x5).tmod (16 : Int)))].length) * 1 ≤ q25)) (q1h.L4 k k1 x0 x3 (x4 ++ [(q1u x3 (IntKind.u8.wrap ((q1u x0 x5).tdiv (16 : Int)))), (q1u x3 ((q1u x0 x5).tmod (16 : Int)))]) (w64 (x5 + 1))) (none)) (none)) (none)) (none)) (none)) (none)) (none)) (some (strOf x4)) := by kernel_rfl
abbrev q1h.e (k : Nat) : FuncId × CE := (90, ⟨q1h.ps, q1h.rs, q1h.F k⟩)
theorem q1h.q (k : Nat) : Qs (q1h.e k) := qq (C := q1h.C) (fun k => .nil) k
abbrev q2g.e (k : Nat) : FuncId × CE := (91, ⟨q2g.ps, q2g.rs, q2g.F k⟩)
theorem q2g.q (k : Nat) : Qs (q2g.e k) := ⟨q2g.snd k, q2g.can⟩
def q1v.C (k : Nat) : CEs := [q2g.e k, q1h.e k]
abbrev q1v.ps : List Par := [⟨.str, .rd⟩]
abbrev q1v.rs : List Res := [⟨.str, .ro, false⟩]
def q1v.F := q37 E q1v.C [] Tryz.f49 q1v.ps q1v.rs
def q1v.f (k : Nat) (x0 : ByteArray) : Option (ByteArray) := q1v.F k x0
theorem q1v.f_eq (k : Nat) (x0 : ByteArray) : q1v.f k x0 = (q2g.f k x0).bind fun (r0 : ByteArray) => (q1h.f k r0).bind fun (r1 : ByteArray) => some r1 := by kernel_rfl
abbrev q1v.e (k : Nat) : FuncId × CE := (49, ⟨q1v.ps, q1v.rs, q1v.F k⟩)
theorem q1v.q (k : Nat) : Qs (q1v.e k) := qq (C := q1v.C) (fun k => .c (q2g.q k) <| .c (q1h.q k) <| .nil) k
def q0b.C (k : Nat) : CEs := [q0d.e k, q1b.e k]
abbrev q0b.ps : List Par := [⟨t26, .rd⟩]
abbrev q0b.rs : List Res := [⟨.str, .ro, false⟩]
def q0b.H : q30 := [(4, [(1, .ro), (3, .ro)]), (5, [(1, .ro), (3, .ro), (4, .ro)]), (9, [(1, .ro), (3, .ro), (5, .ro)]), (13, [(1, .ro), (3, .ro), (6, .ro)])]
def q0b.F := q37 E q0b.C q0b.H Tryz.f94 q0b.ps q0b.rs
def q0b.J4 (k : Nat) (x1 : Delta) (x3 : ByteArray) : Option (ByteArray) := atJ E q0b.C q0b.H Tryz.f94 q0b.ps q0b.rs [true, true, true] 0 [] k (sh 59 [(1, .box t26 x1 .ro none), (3, .d .str x3 .ro)])
def q0b.L5 (k k1 : Nat) (x1 : Delta) (x3 : ByteArray) (x4 : Int) : Option (ByteArray) := atL E q0b.C q0b.H Tryz.f94 q0b.ps q0b.rs [true, true, true, false, true, true] 0 [k] k1 (sh 59 [(1, .box t26 x1 .ro none), (3, .d .str x3 .ro), (4, .d (.int .i64) x4 .ro)])
def q0b.L9 (k k1 : Nat) (x1 : Delta) (x3 : ByteArray) (x5 : Int) : Option (ByteArray) := atL E q0b.C q0b.H Tryz.f94 q0b.ps q0b.rs [true, true, true, true, false, true, true] 0 [k] k1 (sh 59 [(1, .box t26 x1 .ro none), (3, .d .str x3 .ro), (5, .d (.int .i64) x5 .ro)])
def q0b.L13 (k k1 : Nat) (x1 : Delta) (x3 : ByteArray) (x6 : Int) : Option (ByteArray) := atL E q0b.C q0b.H Tryz.f94 q0b.ps q0b.rs [true, true, true, true, true, false, true, true] 0 [k] k1 (sh 59 [(1, .box t26 x1 .ro none), (3, .d .str x3 .ro), (6, .d (.int .i64) x6 .ro)])
def q0b.f (k : Nat) (x0 : Delta) : Option (ByteArray) := q0b.F k x0
theorem q0b.f_eq (k : Nat) (x0 : Delta) : q0b.f k x0 = ifb x0.2.2.1 (q0b.J4 k x0 (⟨#[97, 102, 102, 105, 120, 101, 115, 10]⟩ : ByteArray)) (q0b.J4 k x0 bz) := by kernel_rfl
theorem q0b.J4_eq (k : Nat) (x1 : Delta) (x3 : ByteArray) : q0b.J4 (k + 1) x1 x3 = q0b.L5 k k x1 x3 (0 : Int) := by kernel_rfl
theorem q0b.L5_eq (k k1 : Nat) (x1 : Delta) (x3 : ByteArray) (x4 : Int) : q0b.L5 k (k1 + 1) x1 x3 x4 = ifb (decide (x4 < (x1.2.2.2.length : Int))) (ifb (decide (0 ≤ x4) && decide (x4 < (x1.2.2.2.length : Int))) ((q0d.f k1 (x1.2.2.2.getD x4.toNat zA)).bind fun (r0 : ByteArray) => ifb (q3n (x3.size + r0.size)) (ifb (q3n ((x3 ++ r0).size + (⟨#[10]⟩ : ByteArray).size)) (q0b.L5 k k1 x1 ((x3 ++ r0) ++ (⟨#[10]⟩ : ByteArray)) (w64 (x4 + 1))) (none)) (none)) (none)) (q0b.L9 k k x1 x3 (0 : Int)) := by kernel_rfl
theorem q0b.L9_eq (k k1 : Nat) (x1 : Delta) (x3 : ByteArray) (x5 : Int) : q0b.L9 k (k1 + 1) x1 x3 x5 = ifb (decide (x5 < (x1.1.length : Int))) (ifb (q3n (x3.size + (⟨#[45]⟩ : ByteArray).size)) (ifb (decide (0 ≤ x5) && decide (x5 < (x1.1.length : Int))) (ifb (q3n ((x3 ++ (⟨#[45]⟩ : ByteArray)).size + (x1.1.getD x5.toNat bz).size)) (ifb (q3n (((x3 ++ (⟨#[45]⟩ : ByteArray)) ++ (x1.1.getD x5.toNat bz)).size + (⟨#[10]⟩ : ByteArray).size)) (q0b.L9 k k1 x1 (((x3 ++ (⟨#[45]⟩ : ByteArray)) ++ (x1.1.getD x5.toNat bz)) ++ (⟨#[10]⟩ : ByteArray)) (w64 (x5 + 1))) (none)) (none)) (none)) (none)) (q0b.L13 k k x1 x3 (0 : Int)) := by kernel_rfl
theorem q0b.L13_eq (k k1 : Nat) (x1 : Delta) (x3 : ByteArray) (x6 : Int) : q0b.L13 k (k1 + 1) x1 x3 x6 = ifb (decide (x6 < (x1.2.1.length : Int))) (ifb (q3n (x3.size + (⟨#[43]⟩ : ByteArray).size)) (ifb (decide (0 ≤ x6) && decide (x6 < (x1.2.1.length : Int))) ((q1b.f k1 (x1.2.1.getD x6.toNat zE)).bind fun (r1 : ByteArray) => ifb (q3n ((x3 ++ (⟨#[43]⟩ : ByteArray)).size + r1.size)) (ifb (q3n (((x3 ++ (⟨#[43]⟩ : ByteArray)) ++ r1).size + (⟨#[10]⟩ : ByteArray).size)) (q0b.L13 k k1 x1 (((x3 ++ (⟨#[43]⟩ : ByteArray)) ++ r1) ++ (⟨#[10]⟩ : ByteArray)) (w64 (x6 + 1))) (none)) (none)) (none)) (none)) (some x3) := by kernel_rfl
abbrev q0b.e (k : Nat) : FuncId × CE := (94, ⟨q0b.ps, q0b.rs, q0b.F k⟩)
theorem q0b.q (k : Nat) : Qs (q0b.e k) := qq (C := q0b.C) (fun k => .c (q0d.q k) <| .c (q1b.q k) <| .nil) k
abbrev spec_l1Dec.e (k : Nat) : FuncId × CE := (93, ⟨spec_l1Dec.ps, spec_l1Dec.rs, spec_l1Dec.F k⟩)
theorem spec_l1Dec.q (k : Nat) : Qs (spec_l1Dec.e k) := ⟨spec_l1Dec.snd k, spec_l1Dec.can⟩
def q20.C (k : Nat) : CEs := [spec_l1Dec.e k, q0b.e k]
abbrev q20.ps : List Par := [⟨t28, .rd⟩]
abbrev q20.rs : List Res := [⟨.str, .ro, false⟩]
def q20.F := q37 E q20.C [] Tryz.f42 q20.ps q20.rs
def q20.f (k : Nat) (x0 : Release) : Option (ByteArray) := q20.F k x0
theorem q20.f_eq (k : Nat) (x0 : Release) : q20.f k x0 = (spec_l1Dec.f k x0.1).bind fun (r0 : ByteArray) => ifb (q3n ((⟨#[114, 101, 108, 101, 97, 115, 101, 32]⟩ : ByteArray).size + r0.size)) (ifb (q3n (((⟨#[114, 101, 108, 101, 97, 115, 101, 32]⟩ : ByteArray) ++ r0).size + (⟨#[32]⟩ : ByteArray).size)) (ifb (q3n ((((⟨#[114, 101, 108, 101, 97, 115, 101, 32]⟩ : ByteArray) ++ r0) ++ (⟨#[32]⟩ : ByteArray)).size + x0.2.2.1.size)) (ifb (q3n (((((⟨#[114, 101, 108, 101, 97, 115, 101, 32]⟩ : ByteArray) ++ r0) ++ (⟨#[32]⟩ : ByteArray)) ++ x0.2.2.1).size + (⟨#[10]⟩ : ByteArray).size)) ((q0b.f k x0.2.1).bind fun (r1 : ByteArray) => ifb (q3n ((((((⟨#[114, 101, 108, 101, 97, 115, 101, 32]⟩ : ByteArray) ++ r0) ++ (⟨#[32]⟩ : ByteArray)) ++ x0.2.2.1) ++ (⟨#[10]⟩ : ByteArray)).size + r1.size)) (some ((((((⟨#[114, 101, 108, 101, 97, 115, 101, 32]⟩ : ByteArray) ++ r0) ++ (⟨#[32]⟩ : ByteArray)) ++ x0.2.2.1) ++ (⟨#[10]⟩ : ByteArray)) ++ r1)) (none)) (none)) (none)) (none)) (none) := by kernel_rfl
abbrev q20.e (k : Nat) : FuncId × CE := (42, ⟨q20.ps, q20.rs, q20.F k⟩)
theorem q20.q (k : Nat) : Qs (q20.e k) := qq (C := q20.C) (fun k => .c (spec_l1Dec.q k) <| .c (q0b.q k) <| .nil) k
def q0x.C (k : Nat) : CEs := []
abbrev q0x.ps : List Par := [⟨.str, .rd⟩, ⟨(.int .u8), .rd⟩]
abbrev q0x.rs : List Res := [⟨.str, .ro, false⟩]
def q0x.H : q30 := [(3, [(0, .ro), (1, .ro), (5, (.own .ro)), (6, .ro)]), (8, [(0, .ro), (1, .ro), (5, (.own .ro)), (6, .ro), (7, .ro)])]
def q0x.F := q37 E q0x.C q0x.H Tryz.f92 q0x.ps q0x.rs
def q0x.L3 (k k1 : Nat) (x0 : ByteArray) (x1 : Int) (x5 : List Int) (x6 : Int) : Option (ByteArray) := atL E q0x.C q0x.H Tryz.f92 q0x.ps q0x.rs [true, true, false, true, true] k [] k1 (sh 28 [(0, .d .str x0 .ro), (1, .d (.int .u8) x1 .ro), (5, .d t22 x5 (.own .ro)), (6, .d (.int .i64) x6 .ro)])
def q0x.J8 (k k1 k2 : Nat) (x0 : ByteArray) (x1 : Int) (x5 : List Int) (x6 : Int) (x7 : Int) : Option (ByteArray) := atJ E q0x.C q0x.H Tryz.f92 q0x.ps q0x.rs [true, true, false, true, true, true, true, false, true, true, true] k [k1] k2 (sh 28 [(0, .d .str x0 .ro), (1, .d (.int .u8) x1 .ro), (5, .d t22 x5 (.own .ro)), (6, .d (.int .i64) x6 .ro), (7, .d (.int .u8) x7 .ro)])
def q0x.f (k : Nat) (x0 : ByteArray) (x1 : Int) : Option (ByteArray) := q0x.F k (x0, x1)
theorem q0x.f_eq (k : Nat) (x0 : ByteArray) (x1 : Int) : q0x.f k x0 x1 = q0x.L3 k k x0 x1 ([] : List Int) (0 : Int) := by kernel_rfl
theorem q0x.L3_eq (k k1 : Nat) (x0 : ByteArray) (x1 : Int) (x5 : List Int) (x6 : Int) : q0x.L3 k (k1 + 1) x0 x1 x5 x6 = ifb (decide (x6 < (64 : Int))) (ifb (decide (x6 < (x0.size : Int))) (ifb (decide (0 ≤ x6) && decide (x6 < (x0.size : Int))) (q0x.J8 k k1 k1 x0 x1 x5 x6 (q1u x0 x6)) (none)) (q0x.J8 k k1 k1 x0 x1 x5 x6 (0 : Int))) (some (strOf x5)) := by kernel_rfl
theorem q0x.J8_eq (k k1 k2 : Nat) (x0 : ByteArray) (x1 : Int) (x5 : List Int) (x6 : Int) (x7 : Int) : q0x.J8 k k1 (k2 + 1) x0 x1 x5 x6 x7 = ifb (decide ((x5.length + [(IntKind.u8.wrap ((BitVec.ofInt 8 x7 ^^^ BitVec.ofInt 8 x1).toNat))].length) * 1 ≤ q25)) (q0x.L3 k k1 x0 x1 (x5 ++ [(IntKind.u8.wrap ((BitVec.ofInt 8 x7 ^^^ BitVec.ofInt 8 x1).toNat))]) (w64 (x6 + 1))) (none) := by kernel_rfl
abbrev q0x.e (k : Nat) : FuncId × CE := (92, ⟨q0x.ps, q0x.rs, q0x.F k⟩)
theorem q0x.q (k : Nat) : Qs (q0x.e k) := qq (C := q0x.C) (fun k => .nil) k
def q27.C (k : Nat) : CEs := [q2g.e k, q2f.e k, q1h.e k, q0x.e k]
abbrev q27.ps : List Par := [⟨.str, .rd⟩, ⟨.str, .rd⟩]
abbrev q27.rs : List Res := [⟨.str, .ro, false⟩]
def q27.F := q37 E q27.C [] Tryz.f41 q27.ps q27.rs
def q27.f (k : Nat) (x0 : ByteArray) (x1 : ByteArray) : Option (ByteArray) := q27.F k (x0, x1)
theorem q27.f_eq (k : Nat) (x0 : ByteArray) (x1 : ByteArray) : q27.f k x0 x1 = (q2f.f k x0).bind fun (r0 : Bool) => ifb (!r0) (some bz) ((q0x.f k x0 (92 : Int)).bind fun (r1 : ByteArray) => (q0x.f k x0 (54 : Int)).bind fun (r2 : ByteArray) => ifb (q3n (r2.size + x1.size)) ((q2g.f k (r2 ++ x1)).bind fun (r3 : ByteArray) => ifb (q3n (r1.size + r3.size)) ((q2g.f k (r1 ++ r3)).bind fun (r4 : ByteArray) => (q1h.f k r4).bind fun (r5 : ByteArray) => some r5) (none)) (none)) := by kernel_rfl
abbrev q27.e (k : Nat) : FuncId × CE := (41, ⟨q27.ps, q27.rs, q27.F k⟩)
theorem q27.q (k : Nat) : Qs (q27.e k) := qq (C := q27.C) (fun k => .c (q2g.q k) <| .c (q2f.q k) <| .c (q1h.q k) <| .c (q0x.q k) <| .nil) k
def q1s.C (k : Nat) : CEs := [q0s.e k]
abbrev q1s.ps : List Par := [⟨t24, .rd⟩]
abbrev q1s.rs : List Res := [⟨.bool, .ro, false⟩]
def q1s.F := q37 E q1s.C [] Tryz.f135 q1s.ps q1s.rs
def q1s.f (k : Nat) (x0 : List En) : Option (Bool) := q1s.F k x0
theorem q1s.f_eq (k : Nat) (x0 : List En) : q1s.f k x0 = (q0s.f k (([] : List Aff), x0)).bind fun (r0 : Bool) => some r0 := by kernel_rfl
abbrev q1s.e (k : Nat) : FuncId × CE := (135, ⟨q1s.ps, q1s.rs, q1s.F k⟩)
theorem q1s.q (k : Nat) : Qs (q1s.e k) := qq (C := q1s.C) (fun k => .c (q0s.q k) <| .nil) k
def q0g.C (k : Nat) : CEs := [q2a.e k, q09.e k, q1s.e k]
abbrev q0g.ps : List Par := [⟨t26, .rd⟩]
abbrev q0g.rs : List Res := [⟨.bool, .ro, false⟩]
def q0g.H : q30 := [(2, [(1, .ro), (3, .ro)]), (7, [(1, .ro), (3, .ro), (4, .ro)])]
def q0g.F := q37 E q0g.C q0g.H Tryz.f88 q0g.ps q0g.rs
def q0g.L2 (k k1 : Nat) (x1 : Delta) (x3 : Int) : Option (Bool) := atL E q0g.C q0g.H Tryz.f88 q0g.ps q0g.rs [true, false, true, true] k [] k1 (sh 80 [(1, .box t26 x1 .ro none), (3, .d (.int .i64) x3 .ro)])
def q0g.L7 (k k1 k2 : Nat) (x1 : Delta) (x3 : Int) (x4 : Int) : Option (Bool) := atL E q0g.C q0g.H Tryz.f88 q0g.ps q0g.rs [true, false, true, true, true, true, false, true, true, true, true] k [k1] k2 (sh 80 [(1, .box t26 x1 .ro none), (3, .d (.int .i64) x3 .ro), (4, .d (.int .i64) x4 .ro)])
def q0g.f (k : Nat) (x0 : Delta) : Option (Bool) := q0g.F k x0
theorem q0g.f_eq (k : Nat) (x0 : Delta) : q0g.f k x0 = q0g.L2 k k x0 (0 : Int) := by kernel_rfl
theorem q0g.L2_eq (k k1 : Nat) (x1 : Delta) (x3 : Int) : q0g.L2 k (k1 + 1) x1 x3 = ifb (decide (x3 < (x1.1.length : Int))) (ifb (decide (0 ≤ x3) && decide (x3 < (x1.1.length : Int))) ((q2a.f k1 (x1.1.getD x3.toNat bz)).bind fun (r0 : Bool) => ifb (!r0) (some false) (ifb (decide (x3 > 0)) (ifb (decide (0 ≤ (w64 (x3 - 1))) && decide ((w64 (x3 - 1)) < (x1.1.length : Int))) (ifb (decide (0 ≤ x3) && decide (x3 < (x1.1.length : Int))) (ifb (!(Op.bytesLess (x1.1.getD ((w64 (x3 - 1)).toNat) bz).toList (x1.1.getD x3.toNat bz).toList)) (some false) (q0g.L7 k k1 k1 x1 x3 (0 : Int))) (none)) (none)) (q0g.L7 k k1 k1 x1 x3 (0 : Int)))) (none)) (ifb (decide ((x1.1.length : Int) ≤ (24 : Int))) ((q1s.f k x1.2.1).bind fun (r1 : Bool) => ifb r1 ((q09.f k x1.2.2.2).bind fun (r2 : Bool) => ifb r2 (ifb x1.2.2.1 (some true) (some ((x1.2.2.2.length : Int) == (0 : Int)))) (some false)) (some false)) (some false)) := by kernel_rfl
theorem q0g.L7_eq (k k1 k2 : Nat) (x1 : Delta) (x3 : Int) (x4 : Int) : q0g.L7 k k1 (k2 + 1) x1 x3 x4 = ifb (decide (x4 < (x1.2.1.length : Int))) (ifb (decide (0 ≤ x4) && decide (x4 < (x1.2.1.length : Int))) (ifb (decide (0 ≤ x3) && decide (x3 < (x1.1.length : Int))) (ifb (((x1.2.1.getD x4.toNat zE).1).toList == (x1.1.getD x3.toNat bz).toList) (some false) (q0g.L7 k k1 k2 x1 x3 (w64 (x4 + 1)))) (none)) (none)) (q0g.L2 k k1 x1 (w64 (x3 + 1))) := by kernel_rfl
abbrev q0g.e (k : Nat) : FuncId × CE := (88, ⟨q0g.ps, q0g.rs, q0g.F k⟩)
theorem q0g.q (k : Nat) : Qs (q0g.e k) := qq (C := q0g.C) (fun k => .c (q2a.q k) <| .c (q09.q k) <| .c (q1s.q k) <| .nil) k
def q1y.C (k : Nat) : CEs := []
abbrev q1y.ps : List Par := [⟨(.int .u8), .rd⟩]
abbrev q1y.rs : List Res := [⟨.bool, .ro, false⟩]
def q1y.F := q37 E q1y.C [] Tryz.f89 q1y.ps q1y.rs
def q1y.f (k : Nat) (x0 : Int) : Option (Bool) := q1y.F k x0
theorem q1y.f_eq (k : Nat) (x0 : Int) : q1y.f k x0 = ifb (decide (x0 ≥ (48 : Int))) (ifb (decide (x0 ≤ (57 : Int))) (some true) (ifb (decide (x0 ≥ (97 : Int))) (some (decide (x0 ≤ (102 : Int)))) (some false))) (ifb (decide (x0 ≥ (97 : Int))) (some (decide (x0 ≤ (102 : Int)))) (some false)) := by kernel_rfl
abbrev q1y.e (k : Nat) : FuncId × CE := (89, ⟨q1y.ps, q1y.rs, q1y.F k⟩)
theorem q1y.q (k : Nat) : Qs (q1y.e k) := qq (C := q1y.C) (fun k => .nil) k
def q0v.C (k : Nat) : CEs := [q2q.e k, q20.e k, q0g.e k, q1y.e k]
abbrev q0v.ps : List Par := [⟨t28, .rd⟩]
abbrev q0v.rs : List Res := [⟨.bool, .ro, false⟩]
def q0v.H : q30 := [(4, [(1, .ro), (3, .ro)])]
def q0v.F := q37 E q0v.C q0v.H Tryz.f40 q0v.ps q0v.rs
def q0v.L4 (k k1 : Nat) (x1 : Release) (x3 : Int) : Option (Bool) := atL E q0v.C q0v.H Tryz.f40 q0v.ps q0v.rs [true, true, false, true, true] k [] k1 (sh 48 [(1, .box t28 x1 .ro none), (3, .d (.int .i64) x3 .ro)])
def q0v.f (k : Nat) (x0 : Release) : Option (Bool) := q0v.F k x0
theorem q0v.f_eq (k : Nat) (x0 : Release) : q0v.f k x0 = (q2q.f k x0.1 (1 : Int) (999999 : Int)).bind fun (r0 : Bool) => ifb (!r0) (some false) ((q0g.f k x0.2.1).bind fun (r1 : Bool) => ifb (!r1) (some false) (ifb ((x0.2.2.1.size : Int) != (64 : Int)) (some false) (ifb ((x0.2.2.2.size : Int) != (64 : Int)) (some false) (q0v.L4 k k x0 (0 : Int))))) := by kernel_rfl
theorem q0v.L4_eq (k k1 : Nat) (x1 : Release) (x3 : Int) : q0v.L4 k (k1 + 1) x1 x3 = ifb (decide (x3 < (64 : Int))) (ifb (decide (0 ≤ x3) && decide (x3 < (x1.2.2.1.size : Int))) ((q1y.f k1 (q1u x1.2.2.1 x3)).bind fun (r2 : Bool) => ifb (!r2) (some false) (ifb (decide (0 ≤ x3) && decide (x3 < (x1.2.2.2.size : Int))) ((q1y.f k1 (q1u x1.2.2.2 x3)).bind fun (r3 : Bool) => ifb (!r3) (some false) (q0v.L4 k k1 x1 (w64 (x3 + 1)))) (none))) (none)) ((q20.f k x1).bind fun (r4 : ByteArray) => some (decide ((r4.size : Int) ≤ (1200 : Int)))) := by kernel_rfl
abbrev q0v.e (k : Nat) : FuncId × CE := (40, ⟨q0v.ps, q0v.rs, q0v.F k⟩)
theorem q0v.q (k : Nat) : Qs (q0v.e k) := qq (C := q0v.C) (fun k => .c (q2q.q k) <| .c (q20.q k) <| .c (q0g.q k) <| .c (q1y.q k) <| .nil) k
def q1e.C (k : Nat) : CEs := [q2q.e k, q2f.e k, q0s.e k, q0a.e k, q17.e k, q1v.e k, q20.e k, q27.e k, q0v.e k]
abbrev q1e.ps : List Par := [⟨.str, .rd⟩, ⟨(.int .i64), .rd⟩, ⟨t38, .rd⟩, ⟨t38, .rd⟩]
abbrev q1e.rs : List Res := [⟨t28, (.pr .ro (.pr (.pr (.own .ro) (.pr (.own .ro) (.pr .ro (.own .ro)))) .ro)), false⟩, ⟨.bool, .ro, false⟩]
def q1e.F := q37 E q1e.C [] Tryz.f13 q1e.ps q1e.rs
def q1e.f (k : Nat) (x0 : ByteArray) (x1 : Int) (x2 : Book) (x3 : Book) : Option (Release × Bool) := q1e.F k (x0, x1, x2, x3)
theorem q1e.f_eq (k : Nat) (x0 : ByteArray) (x1 : Int) (x2 : Book) (x3 : Book) : q1e.f k x0 x1 x2 x3 = (q2f.f k x0).bind fun (r0 : Bool) => ifb (!r0) (some (((0 : Int), (([] : List ByteArray), ([] : List En), false, ([] : List Aff)), bz, bz), false)) ((q2q.f k x1 (0 : Int) (999998 : Int)).bind fun (r1 : Bool) => ifb (!r1) (some (((0 : Int), (([] : List ByteArray), ([] : List En), false, ([] : List Aff)), bz, bz), false)) ((q0s.f k x2).bind fun (r2 : Bool) => ifb (!r2) (some (((0 : Int), (([] : List ByteArray), ([] : List En), false, ([] : List Aff)), bz, bz), false)) ((q0s.f k x3).bind fun (r3 : Bool) => ifb (!r3) (some (((0 : Int), (([] : List ByteArray), ([] : List En), false, ([] : List Aff)), bz, bz), false)) ((q0a.f k x2 x3).bind fun (r4 : Delta) => (q17.f k x3).bind fun (r5 : ByteArray) => (q1v.f k r5).bind fun (r6 : ByteArray) => (q20.f k ((w64 (x1 + 1)), r4, r6, bz)).bind fun (r7 : ByteArray) => (q27.f k x0 r7).bind fun (r8 : ByteArray) => (q0v.f k ((w64 (x1 + 1)), r4, r6, r8)).bind fun (r9 : Bool) => ifb (!r9) (some (((0 : Int), (([] : List ByteArray), ([] : List En), false, ([] : List Aff)), bz, bz), false)) (some (((w64 (x1 + 1)), r4, r6, r8), true)))))) := by kernel_rfl
abbrev q1e.e (k : Nat) : FuncId × CE := (13, ⟨q1e.ps, q1e.rs, q1e.F k⟩)
theorem q1e.q (k : Nat) : Qs (q1e.e k) := qq (C := q1e.C) (fun k => .c (q2q.q k) <| .c (q2f.q k) <| .c (q0s.q k) <| .c (q0a.q k) <| .c (q17.q k) <| .c (q1v.q k) <| .c (q20.q k) <| .c (q27.q k) <| .c (q0v.q k) <| .nil) k
def q1r.C (k : Nat) : CEs := []
abbrev q1r.ps : List Par := [⟨(.int .i64), .rd⟩, ⟨(.int .i64), .rd⟩, ⟨(.int .i64), .rd⟩]
abbrev q1r.rs : List Res := [⟨.bool, .ro, false⟩]
def q1r.F := q37 E q1r.C [] Tryz.f53 q1r.ps q1r.rs
def q1r.f (k : Nat) (x0 : Int) (x1 : Int) (x2 : Int) : Option (Bool) := q1r.F k (x0, x1, x2)
theorem q1r.f_eq (k : Nat) (x0 : Int) (x1 : Int) (x2 : Int) : q1r.f k x0 x1 x2 = ifb (decide (x0 ≥ x1)) (some (decide (x0 ≤ x2))) (some false) := by kernel_rfl
abbrev q1r.e (k : Nat) : FuncId × CE := (53, ⟨q1r.ps, q1r.rs, q1r.F k⟩)
theorem q1r.q (k : Nat) : Qs (q1r.e k) := qq (C := q1r.C) (fun k => .nil) k
def q2m.C (k : Nat) : CEs := [q1r.e k]
abbrev q2m.ps : List Par := [⟨.str, .rd⟩]
abbrev q2m.rs : List Res := [⟨.bool, .ro, false⟩]
def q2m.F := q37 E q2m.C [] Tryz.f36 q2m.ps q2m.rs
def q2m.f (k : Nat) (x0 : ByteArray) : Option (Bool) := q2m.F k x0
theorem q2m.f_eq (k : Nat) (x0 : ByteArray) : q2m.f k x0 = (q1r.f k (x0.size : Int) (1 : Int) (64 : Int)).bind fun (r0 : Bool) => ifb r0 (ifb (decide (0 ≤ (w64 ((x0.size : Int) - 1))) && decide ((w64 ((x0.size : Int) - 1)) < (x0.size : Int))) (some ((q1u x0 (w64 ((x0.size : Int) - 1))) != (0 : Int))) (none)) (some false) := by kernel_rfl
abbrev q2m.e (k : Nat) : FuncId × CE := (36, ⟨q2m.ps, q2m.rs, q2m.F k⟩)
theorem q2m.q (k : Nat) : Qs (q2m.e k) := qq (C := q2m.C) (fun k => .c (q1r.q k) <| .nil) k
def q2o.C (k : Nat) : CEs := []
abbrev q2o.ps : List Par := [⟨(.int .u8), .rd⟩]
abbrev q2o.rs : List Res := [⟨.bool, .ro, false⟩]
def q2o.F := q37 E q2o.C [] Tryz.f151 q2o.ps q2o.rs
def q2o.f (k : Nat) (x0 : Int) : Option (Bool) := q2o.F k x0
theorem q2o.f_eq (k : Nat) (x0 : Int) : q2o.f k x0 = ifb (decide (x0 ≥ (65 : Int))) (some (decide (x0 ≤ (90 : Int)))) (some false) := by kernel_rfl
abbrev q2o.e (k : Nat) : FuncId × CE := (151, ⟨q2o.ps, q2o.rs, q2o.F k⟩)
theorem q2o.q (k : Nat) : Qs (q2o.e k) := qq (C := q2o.C) (fun k => .nil) k
def q1l.C (k : Nat) : CEs := []
abbrev q1l.ps : List Par := [⟨.str, .rd⟩]
abbrev q1l.rs : List Res := [⟨.bool, .ro, false⟩]
def q1l.H : q30 := [(2, [(0, .ro), (5, .ro), (6, .ro)])]
def q1l.F := q37 E q1l.C q1l.H Tryz.f152 q1l.ps q1l.rs
def q1l.L2 (k k1 : Nat) (x0 : ByteArray) (x5 : Int) (x6 : Int) : Option (Bool) := atL E q1l.C q1l.H Tryz.f152 q1l.ps q1l.rs [true, false, true, true] k [] k1 (sh 20 [(0, .d .str x0 .ro), (5, .d (.int .i64) x5 .ro), (6, .d (.int .i64) x6 .ro)])
def q1l.f (k : Nat) (x0 : ByteArray) : Option (Bool) := q1l.F k x0
theorem q1l.f_eq (k : Nat) (x0 : ByteArray) : q1l.f k x0 = q1l.L2 k k x0 (x0.size : Int) (0 : Int) := by kernel_rfl
theorem q1l.L2_eq (k k1 : Nat) (x0 : ByteArray) (x5 : Int) (x6 : Int) : q1l.L2 k (k1 + 1) x0 x5 x6 = ifb (decide (x6 < x5)) (ifb (decide (0 ≤ x6) && decide (x6 < (x0.size : Int))) (ifb (decide ((q1u x0 x6) < (97 : Int))) (some false) (ifb (decide (0 ≤ x6) && decide (x6 < (x0.size : Int))) (ifb (decide ((q1u x0 x6) > (122 : Int))) (some false) (q1l.L2 k k1 x0 x5 (w64 (x6 + 1)))) (none))) (none)) (some true) := by kernel_rfl
abbrev q1l.e (k : Nat) : FuncId × CE := (152, ⟨q1l.ps, q1l.rs, q1l.F k⟩)
theorem q1l.q (k : Nat) : Qs (q1l.e k) := qq (C := q1l.C) (fun k => .nil) k
def q0h.C (k : Nat) : CEs := []
abbrev q0h.ps : List Par := [⟨.str, .rd⟩, ⟨.str, .rd⟩]
abbrev q0h.rs : List Res := [⟨.bool, .ro, false⟩]
def q0h.F := q37 E q0h.C [] Tryz.f174 q0h.ps q0h.rs
def q0h.f (k : Nat) (x0 : ByteArray) (x1 : ByteArray) : Option (Bool) := q0h.F k (x0, x1)
theorem q0h.f_eq (k : Nat) (x0 : ByteArray) (x1 : ByteArray) : q0h.f k x0 x1 = ifb (decide ((x0.size : Int) ≥ (x1.size : Int))) (ifb (decide (0 ≤ (0 : Int)) && (decide ((0 : Int) ≤ (x1.size : Int)) && decide ((x1.size : Int) ≤ (x0.size : Int)))) (some ((x0.extract (0 : Int).toNat (x1.size : Int).toNat).toList == x1.toList)) (none)) (some false) := by kernel_rfl
abbrev q0h.e (k : Nat) : FuncId × CE := (174, ⟨q0h.ps, q0h.rs, q0h.F k⟩)
theorem q0h.q (k : Nat) : Qs (q0h.e k) := qq (C := q0h.C) (fun k => .nil) k
def strings_HasPrefix.C (k : Nat) : CEs := [q0h.e k]
abbrev strings_HasPrefix.ps : List Par := [⟨.str, .rd⟩, ⟨.str, .rd⟩]
abbrev strings_HasPrefix.rs : List Res := [⟨.bool, .ro, false⟩]
def strings_HasPrefix.F := q37 E strings_HasPrefix.C [] Tryz.f153 strings_HasPrefix.ps strings_HasPrefix.rs
def strings_HasPrefix.f (k : Nat) (x0 : ByteArray) (x1 : ByteArray) : Option (Bool) := strings_HasPrefix.F k (x0, x1)
theorem strings_HasPrefix.f_eq (k : Nat) (x0 : ByteArray) (x1 : ByteArray) : strings_HasPrefix.f k x0 x1 = (q0h.f k x0 x1).bind fun (r0 : Bool) => some r0 := by kernel_rfl
abbrev strings_HasPrefix.e (k : Nat) : FuncId × CE := (153, ⟨strings_HasPrefix.ps, strings_HasPrefix.rs, strings_HasPrefix.F k⟩)
theorem strings_HasPrefix.q (k : Nat) : Qs (strings_HasPrefix.e k) := qq (C := strings_HasPrefix.C) (fun k => .c (q0h.q k) <| .nil) k
def q0i.C (k : Nat) : CEs := []
abbrev q0i.ps : List Par := [⟨.str, .rd⟩, ⟨.str, .rd⟩]
abbrev q0i.rs : List Res := [⟨.bool, .ro, false⟩]
def q0i.F := q37 E q0i.C [] Tryz.f175 q0i.ps q0i.rs
def q0i.f (k : Nat) (x0 : ByteArray) (x1 : ByteArray) : Option (Bool) := q0i.F k (x0, x1)
theorem q0i.f_eq (k : Nat) (x0 : ByteArray) (x1 : ByteArray) : q0i.f k x0 x1 = ifb (decide ((x0.size : Int) ≥ (x1.size : Int))) (ifb (decide (0 ≤ (w64 ((x0.size : Int) - (x1.size : Int)))) && (decide ((w64 ((x0.size : Int) - (x1.size : Int))) ≤ (x0.size : Int)) && decide ((x0.size : Int) ≤ (x0.size : Int)))) (some ((x0.extract (w64 ((x0.size : Int) - (x1.size : Int))).toNat (x0.size : Int).toNat).toList == x1.toList)) (none)) (some false) := by kernel_rfl
abbrev q0i.e (k : Nat) : FuncId × CE := (175, ⟨q0i.ps, q0i.rs, q0i.F k⟩)
theorem q0i.q (k : Nat) : Qs (q0i.e k) := qq (C := q0i.C) (fun k => .nil) k
def strings_HasSuffix.C (k : Nat) : CEs := [q0i.e k]
abbrev strings_HasSuffix.ps : List Par := [⟨.str, .rd⟩, ⟨.str, .rd⟩]
abbrev strings_HasSuffix.rs : List Res := [⟨.bool, .ro, false⟩]
def strings_HasSuffix.F := q37 E strings_HasSuffix.C [] Tryz.f154 strings_HasSuffix.ps strings_HasSuffix.rs
def strings_HasSuffix.f (k : Nat) (x0 : ByteArray) (x1 : ByteArray) : Option (Bool) := strings_HasSuffix.F k (x0, x1)
theorem strings_HasSuffix.f_eq (k : Nat) (x0 : ByteArray) (x1 : ByteArray) : strings_HasSuffix.f k x0 x1 = (q0i.f k x0 x1).bind fun (r0 : Bool) => some r0 := by kernel_rfl
abbrev strings_HasSuffix.e (k : Nat) : FuncId × CE := (154, ⟨strings_HasSuffix.ps, strings_HasSuffix.rs, strings_HasSuffix.F k⟩)
theorem strings_HasSuffix.q (k : Nat) : Qs (strings_HasSuffix.e k) := qq (C := strings_HasSuffix.C) (fun k => .c (q0i.q k) <| .nil) k
def q0p.C (k : Nat) : CEs := [q2o.e k, q1l.e k, strings_HasPrefix.e k, strings_HasSuffix.e k]
abbrev q0p.ps : List Par := [⟨t90, .rd⟩]
abbrev q0p.rs : List Res := [⟨.bool, .ro, false⟩]
def q0p.H : q30 := [(4, [(1, .ro), (22, (.own .ro)), (23, .ro), (24, .ro)])]
def q0p.F := q37 E q0p.C q0p.H Tryz.f124 q0p.ps q0p.rs
def q0p.L4 (k k1 : Nat) (x1 : Aff) (x22 : List ByteArray) (x23 : Int) (x24 : Int) : Option (Bool) := atL E q0p.C q0p.H Tryz.f124 q0p.ps q0p.rs [true, true, false, true, true] k [] k1 (sh 49 [(1, .box t90 x1 .ro none), (22, .d (.row .str) x22 (.own .ro)), (23, .d (.int .i64) x23 .ro), (24, .d (.int .i64) x24 .ro)])
def q0p.f (k : Nat) (x0 : Aff) : Option (Bool) := q0p.F k x0
theorem q0p.f_eq (k : Nat) (x0 : Aff) : q0p.f k x0 = ifb ((x0.1.size : Int) != (1 : Int)) (some false) (ifb (decide (0 ≤ (0 : Int)) && decide ((0 : Int) < (x0.1.size : Int))) ((q2o.f k (q1u x0.1 (0 : Int))).bind fun (r0 : Bool) => ifb (!r0) (some false) (q0p.L4 k k x0 [x0.2.2.1, x0.2.2.2.1, x0.2.2.2.2] ([x0.2.2.1, x0.2.2.2.1, x0.2.2.2.2].length : Int) (0 : Int))) (none)) := by kernel_rfl
theorem q0p.L4_eq (k k1 : Nat) (x1 : Aff) (x22 : List ByteArray) (x23 : Int) (x24 : Int) : q0p.L4 k (k1 + 1) x1 x22 x23 x24 = ifb (decide (x24 < x23)) (ifb (decide (0 ≤ x24) && decide (x24 < (x22.length : Int))) (ifb (decide (((x22.getD x24.toNat bz).size : Int) > (4 : Int))) (some false) ((q1l.f k1 (x22.getD x24.toNat bz)).bind fun (r1 : Bool) => ifb (!r1) (some false) (q0p.L4 k k1 x1 x22 x23 (w64 (x24 + 1))))) (none)) (ifb x1.2.1 ((strings_HasPrefix.f k x1.2.2.2.2 x1.2.2.1).bind fun (r2 : Bool) => some r2) ((strings_HasSuffix.f k x1.2.2.2.2 x1.2.2.1).bind fun (r3 : Bool) => some r3)) := by kernel_rfl
abbrev q0p.e (k : Nat) : FuncId × CE := (124, ⟨q0p.ps, q0p.rs, q0p.F k⟩)
theorem q0p.q (k : Nat) : Qs (q0p.e k) := qq (C := q0p.C) (fun k => .c (q2o.q k) <| .c (q1l.q k) <| .c (strings_HasPrefix.q k) <| .c (strings_HasSuffix.q k) <| .nil) k
def q00.C (k : Nat) : CEs := []
abbrev q00.ps : List Par := [⟨t25, .rd⟩, ⟨t90, .rd⟩]
abbrev q00.rs : List Res := [⟨(.int .i64), .ro, false⟩]
def q00.H : q30 := [(2, [(0, .ro), (3, .ro), (7, .ro), (8, .ro)])]
def q00.F := q37 E q00.C q00.H Tryz.f155 q00.ps q00.rs
def q00.L2 (k k1 : Nat) (x0 : List Aff) (x3 : Aff) (x7 : Int) (x8 : Int) : Option (Int) := atL E q00.C q00.H Tryz.f155 q00.ps q00.rs [true, false, true, true] k [] k1 (sh 19 [(0, .d t25 x0 .ro), (3, .box t90 x3 .ro none), (7, .d (.int .i64) x7 .ro), (8, .d (.int .i64) x8 .ro)])
def q00.f (k : Nat) (x0 : List Aff) (x1 : Aff) : Option (Int) := q00.F k (x0, x1)
theorem q00.f_eq (k : Nat) (x0 : List Aff) (x1 : Aff) : q00.f k x0 x1 = q00.L2 k k x0 x1 (x0.length : Int) (0 : Int) := by kernel_rfl
theorem q00.L2_eq (k k1 : Nat) (x0 : List Aff) (x3 : Aff) (x7 : Int) (x8 : Int) : q00.L2 k (k1 + 1) x0 x3 x7 x8 = ifb (decide (x8 < x7)) (ifb (decide (0 ≤ x8) && decide (x8 < (x0.length : Int))) (ifb ((x3.1.toList == ((x0.getD x8.toNat zA).1).toList) && ((x3.2.1 == ((x0.getD x8.toNat zA).2).1) && ((x3.2.2.1.toList == ((((x0.getD x8.toNat zA).2).2).1).toList) && ((x3.2.2.2.1.toList == (((((x0.getD x8.toNat zA).2).2).2).1).toList) && (x3.2.2.2.2.toList == (((((x0.getD x8.toNat zA).2).2).2).2).toList))))) (some x8) (q00.L2 k k1 x0 x3 x7 (w64 (x8 + 1)))) (none)) (some (-1 : Int)) := by kernel_rfl
abbrev q00.e (k : Nat) : FuncId × CE := (155, ⟨q00.ps, q00.rs, q00.F k⟩)
theorem q00.q (k : Nat) : Qs (q00.e k) := qq (C := q00.C) (fun k => .nil) k
end
end Go.Proofs.YtnjdoinlnbjedaaGreatDoor.Rf
end

section
/-
 DERIVED: THE SHELF's CONTRACTS AT THIS DUMP, IN PLAIN WORDS (tools/lay-plain.mjs out of 'TryzEShelf.lean', which tools/lay-shelf.mjs wrote): THE SAME DECLARATIONS UNDER THE SAME NAMES: 'import', 'namespace', 'open', 'def', 'theorem' AND NOTHING ELSE: no command of the shelf's: FOR A HAND-IN. Each laying: the table of numbers ('.._ren') and one theorem, a field a fact of the dump's own or the kernel's comparison; each contract: ONE APPLICATION.
-/
namespace Go.Proofs
open Go.Shelf
def Tryz.laysIdx_ren : Go.Shelf.Ren := ⟨fun | 6 => 138 | n => n, fun | 22 => 24 | 23 => 93 | 25 => 94 | 3 => 3 | 0 => 0 | 4 => 4 | n => n, fun | n => n⟩
theorem Tryz.laysIdx : Go.Proofs.SlLaysH0.n6 Tryz.prog Tryz.laysIdx_ren := {
 mixed := by kernel_rfl
 f6 := ⟨Tryz.f138.name, by decide, Tryz.func138.trans (congrArg some (by kernel_rfl))⟩
 t0 := Tryz.underlying0
 a0 := Tryz.isAgg0
 z0 := Tryz.sizeOf0
 v0 := Tryz.zeroValue0
 t3 := Tryz.underlying3
 a3 := Tryz.isAgg3
 z3 := Tryz.sizeOf3
 v3 := Tryz.zeroValue3
 t4 := Tryz.underlying4
 a4 := Tryz.isAgg4
 z4 := Tryz.sizeOf4
 v4 := Tryz.zeroValue4
 t22 := Tryz.underlying24
 a22 := Tryz.isAgg24
 z22 := Tryz.sizeOf24
 v22 := Tryz.zeroValue24
 t25 := Tryz.underlying94
 a25 := Tryz.isAgg94
 z25 := Tryz.sizeOf94
 v25 := Tryz.zeroValue94 }
def Tryz.laysSort_ren : Go.Shelf.Ren := ⟨fun | 6 => 144 | 15 => 172 | 14 => 171 | 28 => 194 | 29 => 195 | 20 => 186 | 21 => 187 | 22 => 188 | 23 => 189 | 24 => 190 | 25 => 191 | 26 => 192 | 27 => 193 | 46 => 205 | 47 => 206 | 48 => 207 | 49 => 208 | 50 => 209 | 57 => 216 | n => n, fun | 22 => 24 | 24 => 93 | 25 => 153 | 3 => 3 | 39 => 139 | 0 => 0 | 53 => 135 | 55 => 137 | 4 => 4 | 46 => 187 | 45 => 186 | 50 => 116 | 5 => 5 | 9 => 9 | 66 => 201 | 70 => 205 | 76 => 213 | 77 => 214 | n => n, fun | n => n⟩
theorem Tryz.laysSort : Go.Proofs.SlLaysF0.n6 Tryz.prog Tryz.laysSort_ren := {
 mixed := by kernel_rfl
 f6 := ⟨Tryz.f144.name, by decide, Tryz.func144.trans (congrArg some (by kernel_rfl))⟩
 f14 := ⟨Tryz.f171.name, by decide, Tryz.func171.trans (congrArg some (by kernel_rfl))⟩
 f15 := Tryz.func172.trans (congrArg some (by kernel_rfl))
 f20 := ⟨Tryz.f186.name, by decide, Tryz.func186.trans (congrArg some (by kernel_rfl))⟩
 f21 := ⟨Tryz.f187.name, by decide, Tryz.func187.trans (congrArg some (by kernel_rfl))⟩
 f22 := ⟨Tryz.f188.name, by decide, Tryz.func188.trans (congrArg some (by kernel_rfl))⟩
 f23 := ⟨Tryz.f189.name, by decide, Tryz.func189.trans (congrArg some (by kernel_rfl))⟩
 f24 := ⟨Tryz.f190.name, by decide, Tryz.func190.trans (congrArg some (by kernel_rfl))⟩
 f25 := ⟨Tryz.f191.name, by decide, Tryz.func191.trans (congrArg some (by kernel_rfl))⟩
 f26 := ⟨Tryz.f192.name, by decide, Tryz.func192.trans (congrArg some (by kernel_rfl))⟩
 f27 := ⟨Tryz.f193.name, by decide, Tryz.func193.trans (congrArg some (by kernel_rfl))⟩
 f28 := Tryz.func194.trans (congrArg some (by kernel_rfl))
 f29 := Tryz.func195.trans (congrArg some (by kernel_rfl))
 f46 := ⟨Tryz.f205.name, by decide, Tryz.func205.trans (congrArg some (by kernel_rfl))⟩
 f47 := Tryz.func206.trans (congrArg some (by kernel_rfl))
 f48 := Tryz.func207.trans (congrArg some (by kernel_rfl))
 f49 := ⟨Tryz.f208.name, by decide, Tryz.func208.trans (congrArg some (by kernel_rfl))⟩
 f50 := ⟨Tryz.f209.name, by decide, Tryz.func209.trans (congrArg some (by kernel_rfl))⟩
 f57 := ⟨Tryz.f216.name, by decide, Tryz.func216.trans (congrArg some (by kernel_rfl))⟩
 t0 := Tryz.underlying0
 a0 := Tryz.isAgg0
 z0 := Tryz.sizeOf0
 v0 := Tryz.zeroValue0
 t3 := Tryz.underlying3
 a3 := Tryz.isAgg3
 z3 := Tryz.sizeOf3
 v3 := Tryz.zeroValue3
 t4 := Tryz.underlying4
 a4 := Tryz.isAgg4
 z4 := Tryz.sizeOf4
 v4 := Tryz.zeroValue4
 t5 := Tryz.underlying5
 a5 := Tryz.isAgg5
 z5 := Tryz.sizeOf5
 v5 := Tryz.zeroValue5
 t9 := Tryz.underlying9
 a9 := Tryz.isAgg9
 z9 := Tryz.sizeOf9
 v9 := Tryz.zeroValue9
 t22 := Tryz.underlying24
 a22 := Tryz.isAgg24
 z22 := Tryz.sizeOf24
 v22 := Tryz.zeroValue24
 t25 := Tryz.underlying153
 a25 := Tryz.isAgg153
 z25 := Tryz.sizeOf153
 v25 := Tryz.zeroValue153
 t39 := Tryz.underlying139
 a39 := Tryz.isAgg139
 z39 := Tryz.sizeOf139
 v39 := Tryz.zeroValue139
 t45 := Tryz.underlying186
 a45 := Tryz.isAgg186
 z45 := Tryz.sizeOf186
 v45 := Tryz.zeroValue186
 t46 := Tryz.underlying187
 a46 := Tryz.isAgg187
 z46 := Tryz.sizeOf187
 v46 := Tryz.zeroValue187
 t50 := Tryz.underlying116
 a50 := Tryz.isAgg116
 z50 := Tryz.sizeOf116
 v50 := Tryz.zeroValue116
 t53 := Tryz.underlying135
 a53 := Tryz.isAgg135
 z53 := Tryz.sizeOf135
 v53 := Tryz.zeroValue135
 t55 := Tryz.underlying137
 a55 := Tryz.isAgg137
 z55 := Tryz.sizeOf137
 v55 := Tryz.zeroValue137
 t66 := Tryz.underlying201
 a66 := Tryz.isAgg201
 z66 := Tryz.sizeOf201
 v66 := Tryz.zeroValue201
 t70 := Tryz.underlying205
 a70 := Tryz.isAgg205
 z70 := Tryz.sizeOf205
 v70 := Tryz.zeroValue205
 t76 := Tryz.underlying213
 a76 := Tryz.isAgg213
 z76 := Tryz.sizeOf213
 v76 := Tryz.zeroValue213
 t77 := Tryz.underlying214
 a77 := Tryz.isAgg214
 z77 := Tryz.sizeOf214
 v77 := Tryz.zeroValue214 }
end Go.Proofs
end

section
/- impl.entryAt, walked by hand: slices.IndexFunc with a closure that has captured a text. -/
namespace Go.Proofs.YtnjdoinlnbjedaaGreatDoor.Rf
open Go Go.RowKit
set_option linter.unusedVariables false
set_option linter.unusedSimpArgs false
def qlr (x : ByteArray × ByteArray) : List Value := [.string x.1, .string x.2]
theorem qew (s : ByteArray) (B : Nat) (w : World) (hB : B < w.heap.size) (hcell : w.cell? ⟨B, 0, none⟩ = some (.string s)) :
  PredBelow Tryz.prog 139 #[.pointer (some ⟨B, 0, none⟩)] (fun x => .agg (qlr x).toArray) (fun x => x.1.toList == s.toList) w := fun W x hb => by
 have hc : W.cell? ⟨B, 0, none⟩ = some (.string s) := (hb.cell (p := ⟨B, 0, none⟩) hB).trans hcell
 have hBW : B < W.heap.size := Nat.lt_of_lt_of_le hB hb.size
 have hne : B ≠ W.heap.size := by omega
 show Calls Tryz.prog 139 #[.agg #[.string x.1, .string x.2], .pointer (some ⟨B, 0, none⟩)] W _
 go_enter Tryz.func139, Tryz.ntmps139
 go_wp2
 go_ret
 exact ⟨rfl, hb.alloc hb.size _⟩
theorem index_empty (a : Option Addr) (c : Nat) (fv : Value) (w : World) :
  Calls Tryz.prog 138 #[.slice a 0 c, fv] w fun e w' => e = .returned (.int .i64 (-1)) ∧ w' = w := by
 go_enter Tryz.func138, Tryz.ntmps138
 go_wp2
 go_loopg [5, 8] 0 (fun _ _ s8 wr => s8 = .int .i64 0 ∧ wr = w)
 case atStart => exact ⟨rfl, rfl⟩
 case round =>
  obtain ⟨rfl, rfl⟩ := hrel
  go_wp2
  go_ret
  exact ⟨rfl, rfl⟩
instance instEn : Inhabited (ByteArray × ByteArray) := ⟨(ByteArray.empty, ByteArray.empty)⟩
def qke (l : List (ByteArray × ByteArray)) (s : ByteArray) : Int := Lib.idxBy (fun _ y => y.1.toList == s.toList) l default
set_option maxHeartbeats 4000000 in
theorem qaq (A0 : Option Addr) (c0 : Nat) (l0 : List (ByteArray × ByteArray)) (a1 : ByteArray) (w : World) (hlen : l0.length ≤ 4611686018427387904)
  (hr : l0 = [] ∨ ∃ b off, A0 = some ⟨b, off, none⟩ ∧ b < w.heap.size ∧ ∀ j, j < l0.length → ∀ i v, (qlr l0[j]!)[i]? = some v → w.cell? ⟨b, off + j * 2 + i, none⟩ = some v) :
  Calls Tryz.prog 103 #[.slice A0 l0.length c0, .string a1] w fun e w' => e = .returned (.int .i64 (qke l0 a1)) ∧ Below w.heap.size w w' := by
 have hcon : Calls Tryz.prog 138 #[.slice A0 l0.length c0, .func (.func 139) #[] #[.pointer (some ⟨w.heap.size, 0, none⟩)]] (w.alloc (.cells #[.string a1] 9)) fun e w' => e = .returned (.int .i64 (qke l0 a1)) ∧ Below (w.alloc (.cells #[.string a1] 9)).heap.size (w.alloc (.cells #[.string a1] 9)) w' := by
  rcases hr with rfl | ⟨b, off, rfl, hb, hc⟩
  ·exact (index_empty A0 c0 _ _).mono fun e w' ⟨he, hw⟩ => ⟨he, hw ▸ Below.refl _ _⟩
  ·have eg : ∀ args w, (callFunc 139 args).run Tryz.prog w = .ok (.enter 139 args) w := enters_of Tryz.func139 (by kernel_rfl) rfl
   have h := AnyQ.slices_IndexFunc Tryz.laysIdx 2 Tryz.isAgg93 Tryz.sizeOf93 qlr (fun _ => rfl) (fun x => x.1.toList == a1.toList) 139 #[.pointer (some ⟨w.heap.size, 0, none⟩)] eg b off l0.length c0 l0 (w.alloc (.cells #[.string a1] 9))
    (qew a1 w.heap.size _ (by simp) (by simp)) (Nat.le_refl _) (by omega) (by simp; omega) (fun j hj i v hi => Lib.cell?_alloc_some _ (hc j hj i v hi))
   rw [List.take_length] at h
   exact h
 unfold qke at hcon ⊢
 generalize Lib.idxBy (fun _ y => y.1.toList == a1.toList) l0 default = r at hcon ⊢
 go_enter Tryz.func103, Tryz.ntmps103
 go_wp2_with (go_at_call 138; refine hcon.mono ?_; rintro e w' ⟨rfl, hb'⟩)
 go_ret
 exact ⟨rfl, ((Below.refl _ w).alloc (Nat.le_refl _) _).trans (hb'.mono (by simp))⟩
abbrev q26.ps : List Par := [⟨.row (.st (.pair .str .str)), .rd⟩, ⟨.str, .rd⟩]
abbrev q26.rs : List Res := [⟨.int .i64, .ro, false⟩]
def q26.F (_ : Nat) (x : List (ByteArray × ByteArray) × ByteArray) : Option Int := if x.1.length ≤ 4611686018427387904 then some (qke x.1 x.2) else none
def q26.f (k : Nat) (l : List (ByteArray × ByteArray)) (s : ByteArray) : Option Int := q26.F k (l, s)
theorem q26.can : Can Tryz.prog 103 := q5p (fn := Tryz.f103) (by kernel_rfl) (by kernel_rfl) (by kernel_rfl)
theorem q26.snd (k : Nat) : Snd Tryz.prog Jp 103 ⟨q26.ps, q26.rs, q26.F k⟩ := by
 refine q7y rfl ?_
 rintro ⟨l, s⟩ r hr ξ w vs wf _ hsz ha
 simp only [q26.F] at hr
 split at hr
 case isFalse => cases hr
 rename_i hlen
 obtain rfl := Option.some.inj hr
 obtain ⟨T0, cs, h0, h1⟩ := ha 0 _ _ rfl rfl
 obtain ⟨T1, h2⟩ := ha 1 _ _ rfl rfl
 have h2 := q5q (by simp) h2
 obtain ⟨A, cap, rfl, k1, k2⟩ := h1.row_ro
 obtain rfl := qe2 hsz h0 h2
 refine (qaq A cap l s w hlen ?_).mono ?_
 ·rcases Nat.eq_zero_or_pos l.length with h | h
  ·exact .inl (List.eq_nil_of_length_eq_zero h)
  ·obtain ⟨a, c, e1, e2, e3, e4, e5⟩ := k2 0 h
   obtain rfl := qao e5
   obtain ⟨b, off, sp⟩ := a
   simp only at e2 e4
   subst e2
   refine .inr ⟨b, off, e1, q6l (e4 0 _ rfl), fun j hj i v hi => ?_⟩
   obtain ⟨a', c', g1, g2, g3, g4, g5⟩ := k2 j hj
   rw [e1] at g1
   obtain rfl := Option.some.inj g1
   obtain rfl := qao g5
   rw [show l[j]! = l[j] from getElem!_pos l j hj] at hi
   exact g4 i v hi
 ·rintro e w' ⟨he, hb⟩
  exact ⟨_, Em, he, hb, of_int _ _ _ _ _, fun b hb => hb.elim⟩
end Go.Proofs.YtnjdoinlnbjedaaGreatDoor.Rf
end

section
namespace Go.Proofs.YtnjdoinlnbjedaaGreatDoor.M
open Go.RowKit Go.Proofs.YtnjdoinlnbjedaaGreatDoorW.PrintWords Go.Proofs.YtnjdoinlnbjedaaGreatDoorW.PrintLast Go.Proofs.YtnjdoinlnbjedaaGreatDoorW.PrintMore Go.Proofs.YtnjdoinlnbjedaaGreatDoor.Sq
set_option synthInstance.maxHeartbeats 2000000
set_option synthInstance.maxSize 4096
attribute [local go_sem] max2_int min2_int max_two min_two max_three min_three max_four min_four
set_option linter.unusedVariables false
set_option linter.unusedSimpArgs false
set_option maxHeartbeats 8000000
set_option maxRecDepth 100000
theorem gf127 : Go_ Tryz.prog 127 Tryz.f127 := ⟨Tryz.func127, by kernel_rfl, rfl⟩
def impl_rolled.f (a0 : Int) (a1 : Int) : Option (Int) := if 0 ≤ a1 then (if 0 ≤ (wrap64 (32 - a1)) then (some (Go.bits .or .u32 (shr .u32 a0 a1) (shl .u32 a0 (wrap64 (32 - a1))))) else (none)) else (none)
theorem impl_rolled.calls (a0 : Int) (a1 : Int) (r : Int) (w : World) (h : impl_rolled.f a0 a1 = some r) :
  Calls Tryz.prog 127 #[.int .u32 a0, .int .i64 a1] w fun e w' => e = .returned (.int .u32 r) ∧ Drawn0 w w' := by
 unfold impl_rolled.f at h
 have H := h
 clear h
 have c3 := ite_y H
 replace H := ite_t H
 have c3b0 := eq_true c3
 have c3b1 := decide_eq_true c3
 clear c3
 obtain ⟨ji4, hji4⟩ : ∃ j_ : Int, (shr .u32 a0 a1) = j_ := ⟨_, rfl⟩
 replace H : (if 0 ≤ (wrap64 (32 - a1)) then (some (Go.bits .or .u32 (ji4) (shl .u32 a0 (wrap64 (32 - a1))))) else (none)) = some r := by first | (rw [hji4] at H; exact H) | (simp only [hji4] at H ⊢; exact H)
 have hji4_ : (a0 / 2 ^ min a1.toNat 32) = ji4 := hji4
 have hji4z : a1 ≤ 32 → (a0 / 2 ^ a1.toNat) = ji4 := shr_small hji4
 obtain ⟨ji5, hji5⟩ : ∃ j_ : Int, (wrap64 (32 - a1)) = j_ := ⟨_, rfl⟩
 replace H : (if 0 ≤ (ji5) then (some (Go.bits .or .u32 (ji4) (shl .u32 a0 (ji5)))) else (none)) = some r := by first | (rw [hji5] at H; exact H) | (simp only [hji5] at H ⊢; exact H)
 have hji5w : (IntKind.i64.wrap (32 - a1)) = ji5 := (i64_w _).trans hji5
 have c6 := ite_y H
 replace H := ite_t H
 have c6b0 := eq_true c6
 have c6b1 := decide_eq_true c6
 clear c6
 obtain ⟨ji7, hji7⟩ : ∃ j_ : Int, (shl .u32 a0 (ji5)) = j_ := ⟨_, rfl⟩
 replace H : (some (Go.bits .or .u32 (ji4) (ji7))) = some r := by first | (rw [hji7] at H; exact H) | (simp only [hji7] at H ⊢; exact H)
 have hji7_ : (IntKind.u32.wrap (a0 * 2 ^ min (ji5).toNat 32)) = ji7 := hji7
 have hji7z : (ji5) ≤ 32 → (IntKind.u32.wrap (a0 * 2 ^ (ji5).toNat)) = ji7 := shl_small hji7
 obtain rfl := Option.some.inj H
 go_enter Tryz.func127, Tryz.ntmps127
 go_wp2
 repeat (go_quiet (fail); try go_wp2)
 go_ret
 exact ⟨by first | rfl | (simp; done) | (simp only [← hji4, ← hji5, ← hji7] <;> (first | rfl | simp)) | (simp [*]; done), by repeat (first | exact Drawn0.refl _ | apply Drawn0.step)⟩
end Go.Proofs.YtnjdoinlnbjedaaGreatDoor.M
end

section
/- impl.sha256Of, walked: it is Sha.sumOf. -/
namespace Go.Proofs.YtnjdoinlnbjedaaGreatDoor.M
open Go.RowKit Go.Proofs.YtnjdoinlnbjedaaGreatDoorW.PrintWords Go.Proofs.YtnjdoinlnbjedaaGreatDoorW.PrintLast Go.Proofs.YtnjdoinlnbjedaaGreatDoorW.PrintMore
open Go.Proofs.YtnjdoinlnbjedaaGreatDoor.Buf Go.Proofs.YtnjdoinlnbjedaaGreatDoor.Sha
attribute [local go_sem] max2_int min2_int max_two min_two max_three min_three max_four min_four   -- for this text's walks alone
set_option linter.unusedVariables false
theorem lit1 (w : World) (e : Nat) (x : Int) : ∀ j u, (nums .u8 [x])[j]? = some u → (w.alloc (.cells #[.int .u8 x] e)).cell? ((⟨w.heap.size, 0, none⟩ : Addr).add j) = some u := by
 intro j u hu
 cases j with
 | zero =>
  simp [nums] at hu
  subst hu
  have hadd : (⟨w.heap.size, 0, none⟩ : Addr).add 0 = ⟨w.heap.size, 0, none⟩ := by unfold Addr.add; split <;> simp_all
  rw [hadd]
  rw [cell_of_row _ _ _ _ _ _ (heap_alloc_new w _)]
  rfl
 | succ j => simp [nums] at hu
theorem built138 : Tryz.prog.built 138 [] = some (nums .u32 Z64).toArray := by kernel_rfl
theorem info138 : (Tryz.prog.info? 138).map (fun i => (i.zero, i.size)) = some (some (.agg (nums .u32 Z64).toArray), 64) := by kernel_rfl
theorem size138 : (Tryz.prog.info? 138).map (·.size) = some 64 := by kernel_rfl
theorem padded_range (s : ByteArray) : ∀ x ∈ padded (bytesOf s), 0 ≤ x ∧ x ≤ 255 := by
 intro x hx
 simp only [padded, lenBytes, lenAt, List.mem_append, List.mem_replicate, List.mem_cons, List.not_mem_nil, or_false] at hx
 rcases hx with ((hx | hx) | hx) | hx
 ·simp only [bytesOf, List.mem_map] at hx
  obtain ⟨b, _, rfl⟩ := hx
  have := b.toNat_lt
  omega
 ·omega
 ·omega
 ·rcases hx with hx | hx | hx | hx | hx | hx | hx | hx <;> (rw [hx]; omega)
theorem rd_take {xs : List Int} {i : Int} (h : i.toNat < 64) : rd xs i = (xs.take 64).getD i.toNat 0 := by
 simp only [rd, List.getD_eq_getElem?_getD, List.getElem?_take, if_pos h]
theorem rolled_any (x n : Int) (w : World) (h0 : 0 ≤ n) (h1 : n ≤ 32) : Calls Tryz.prog 127 #[.int .u32 x, .int .i64 n] w fun e w' => e = .returned (.int .u32 (rot x n)) ∧ ∃ m, w' = w.drewN m := by
 have hw : wrap64 (32 - n) = 32 - n := by unfold wrap64; omega
 refine (impl_rolled.calls x n (rot x n) w ?_).mono fun e w' ⟨h, hd⟩ => ⟨h, hd.out⟩
 unfold impl_rolled.f rot
 rw [if_pos h0, hw, if_pos (by omega)]
theorem rolled_q1 (x n : Int) (w : World) (d : Nat) (h0 : 0 ≤ n) (h1 : n ≤ 32) : Calls Tryz.prog 127 #[.int .u32 x, .int .i64 n] (w.drewN d) fun e w' => e = .returned (.int .u32 (rot x n)) ∧ ∃ m, w' = w.drewN m :=
 (rolled_any x n (w.drewN d) h0 h1).mono fun e w' ⟨h, m, hm⟩ => ⟨h, d + m, by rw [hm, World.drewN_drewN]⟩
theorem rolled_q2 (x n : Int) (w : World) (a d : Nat) (h0 : 0 ≤ n) (h1 : n ≤ 32) : Calls Tryz.prog 127 #[.int .u32 x, .int .i64 n] (w.drewN (a + d)) fun e w' => e = .returned (.int .u32 (rot x n)) ∧ ∃ m, w' = w.drewN (a + m) :=
 (rolled_any x n (w.drewN (a + d)) h0 h1).mono fun e w' ⟨h, m, hm⟩ => ⟨h, d + m, by rw [hm, World.drewN_drewN, Nat.add_assoc]⟩
def Z8 : List Int := List.replicate 8 0
theorem info136 : (Tryz.prog.info? 136).map (fun i => (i.zero, i.size)) = some (some (.agg (nums .u32 Z8).toArray), 8) := by kernel_rfl
theorem size136 : (Tryz.prog.info? 136).map (·.size) = some 8 := by kernel_rfl
theorem print_cut_len (t e : TypeId) (ht : Tryz.prog.underlying t = some (.slice e)) (hinfo : (Tryz.prog.info? e).map (fun i => (i.zero, i.size, i.bytes)) = some (some (.int .u8 0), 1, 1)) (A : Option Addr) (L c : Nat) (hm : 64 ≤ L) (hc : L ≤ c) :
  ∃ A' : Option Addr, (∀ W : World, (Instr.slice t (.slice A L c) (some (.int .i64 64)) none none).run Tryz.prog W = .ok (.slice A' (L - 64) (c - 64)) W) ∧ (∀ (w : World) (xs : List Int), ReadsInt w .u8 A L xs → ReadsInt w .u8 A' (L - 64) (xs.drop 64)) ∧ True := by
 obtain ⟨i, hi, hz⟩ := Option.map_eq_some_iff.1 hinfo
 simp only [Prod.mk.injEq] at hz
 obtain ⟨A', h1, h2⟩ := print_cut_of (P := Tryz.prog) (Value.int .u8) (0 : Int) t e .i64 ht hi hz.2.1 A L c 64 hm
 exact ⟨A', h1, fun w xs h => h2 w xs hc h, trivial⟩
theorem tab_cell {w : World} (h : GWs w) : 0 < w.heap.size ∧ ∀ i, i < 64 → w.cell? ⟨0, i, none⟩ = some (.int .u32 (shaTab.getD i 0)) := by
 have hc : ∀ i, i < 64 → w.cell? ⟨0, i, none⟩ = some (.int .u32 (shaTab.getD i 0)) := fun i hi => by
  have h1 := h.out.cell (g := 0) (by kernel_rfl) i hi
  rw [h1]
 refine ⟨?_, hc⟩
 have h0 := hc 0 (by decide)
 rcases Nat.eq_zero_or_pos w.heap.size with h | h
 ·simp [World.cell?, Array.getElem?_eq_none (show w.heap.size ≤ 0 by omega)] at h0
 ·exact h
theorem size135 : (Tryz.prog.info? 135).map (·.size) = some 1 := by kernel_rfl
theorem rd_range {xs : List Int} (h : ∀ x ∈ xs, 0 ≤ x ∧ x ≤ 255) (i : Int) : 0 ≤ rd xs i ∧ rd xs i ≤ 255 := by
 unfold rd
 rw [List.getD_eq_getElem?_getD]
 cases e : xs[i.toNat]? with
 | none => simp
 | some b => exact h b (List.mem_of_getElem? e)
set_option maxHeartbeats 8000000 in
set_option maxRecDepth 100000 in
theorem sha_calls (s : ByteArray) (w : World) (hs : s.size ≤ 1099511627776) (hGs : GWs w) :
  Calls Tryz.prog 73 #[.string s] w fun e w' => e = .returned (.string (strOfNums (sumOf shaTab (bytesOf s)))) ∧ Below w.heap.size w w' := by
 have HTAB0 := Aside0.mk (tab_cell hGs)
 clear hGs
 go_enter Tryz.func73, Tryz.ntmps73
 go_wp2_with (first
  | ((with_reducible refine gate_dst (N := 23) rfl ?_); refine Buf.conv_event _ (w.heap.size + 1) 9 22 5 rfl (.tmp 22) rfl Tryz.underlying9 Tryz.underlying22 Tryz.underlying5 s rfl (by omega) (by simp) ?_; intro v1 w1 ho1 hb1 hn1; have HO1 := Aside0.mk ho1; have HA1 := Aside0.mk ((Arr.new w 136 H0).below hb1); have HB1 := Aside0.mk (below_step (below_alloc (Below.refl w.heap.size w) _) hb1); clear ho1 hb1 hn1)
  | ((with_reducible refine gate_dst (N := 25) rfl ?_); refine Buf.wpList_append_M _ (w.heap.size + 1) 5 rfl (.tmp 23) (.tmp 24) 22 rfl Tryz.underlying22 info5 v1 (bytesOf s) rfl (HO1.out.alloc _) ⟨w1.heap.size, 0, none⟩ 1 1 [128] rfl rfl (lit1 w1 5 128) (by simp; rw [bytesOf_length]; omega) (by have := HA1.out.lt; simp; omega) ?_; intro v2 w2 ho2 hg2; have HO2 := Aside0.mk ho2; have HB2 := Aside0.mk ((below_alloc HB1.out _).grown hg2 (by have := HA1.out.lt; simp; omega) (fun k hk => by have := HO1.out.lt k hk; omega)); have HA2 := Aside0.mk ((HA1.out.alloc _).grown hg2 (fun e => by have := HO1.out.lt _ e.symm; omega)); clear ho2 hg2))
 go_loopg [4] (zeros s.size) (fun kq v4 w' => ∃ j : Nat, Aside0 (j + kq = zeros s.size) ∧ Aside0 (OwnM w' (w.heap.size + 1) 5 v4 ((bytesOf s ++ [128]) ++ List.replicate j 0)) ∧ Aside0 (Arr w' w.heap.size 136 H0) ∧ Aside0 (Below w.heap.size w w'))
 case atStart => exact ⟨0, ⟨by omega⟩, ⟨by simpa using HO2.out⟩, HA2, HB2⟩
 case round =>
  obtain ⟨j, HJ, HO, HA, HB⟩ := hrel
  obtain ⟨g, cap, L, rfl, hL, hg0, hL1, hL2, hg1⟩ := HO.out.form
  have hLs : L = s.size + 1 + j := by rw [hL]; simp; rw [bytesOf_length]; omega
  have HL := Aside0.mk hL
  clear hL
  cases gk with
  | zero =>
   have h56 : ((L : Int) % 64 != 56) = false := by
    have := HJ.out
    unfold zeros at this
    rw [bne_eq_false_iff_eq]
    omega
   clear hLs
   go_wp2_with fail
   go_loopg [4, 6] 8 (fun kq v4 v6 w' => ∃ b : Int, v6 = .int .i64 b ∧ Aside0 (b = 8 * (kq : Int) - 8) ∧ Aside0 (kq ≤ 8) ∧ Aside0 (OwnM w' (w.heap.size + 1) 5 v4 ((bytesOf s ++ [128]) ++ List.replicate j 0 ++ (lenBytes ((s.size : Int) * 8)).take (8 - kq))) ∧ Aside0 (Arr w' w.heap.size 136 H0) ∧ Aside0 (Below w.heap.size w w'))
   case atStart => exact ⟨_, rfl, ⟨rfl⟩, ⟨by omega⟩, ⟨by simpa using HO.out⟩, HA, HB⟩
   case round =>
    have HO9 := HO; clear HO
    clear HA HB
    obtain ⟨b, rfl, HBY, HKQ, HO, HA, HB⟩ := hrel
    cases gk with
    | zero =>
     have hb0 : decide (0 ≤ b) = false := by have := HBY.out; simp; omega
     obtain ⟨P, hP⟩ : ∃ P, P = padded (bytesOf s) := ⟨_, rfl⟩
     have HOP : Aside0 (OwnM wr (w.heap.size + 1) 5 _ P) := ⟨by
      have h1 := HO.out
      rw [take_len_all] at h1
      rw [hP, padded, bytesOf_length, ← show j = zeros s.size from by have := HJ.out; omega]
      exact h1⟩
     have hP64 : P.length % 64 = 0 := by rw [hP]; exact padded_length _
     have HP := Aside0.mk hP
     clear hP HO HO9 HL
     obtain ⟨g2, cap2, L2, rfl, hL2, hg20, hL21, hL22, hg21⟩ := HOP.out.form
     have HSRC := Aside0.mk (src_of_own HOP.out rfl (show w.heap.size < w.heap.size + 1 by omega))
     have HL2 := Aside0.mk hL2
     have HN := Aside0.mk (show P.length = 64 * (P.length / 64) by omega)
     clear hL2 hP64
     obtain ⟨wb, hwb⟩ : ∃ wb, wb = wr := ⟨_, rfl⟩
     have HTAB := Aside0.mk (show ∀ w1 : World, wb.grownBy w1 (some w.heap.size) → ∀ i, i < 64 → w1.cell? ⟨0, i, none⟩ = some (.int .u32 (shaTab.getD i 0)) from fun w1 hw1 i hi => by
      rw [World.cell?_of_block (w := wb) (hw1.block 0 (by have := HTAB0.out.1; have := HB.out.size; rw [hwb]; omega) (fun e => by injection e with e; have := HTAB0.out.1; omega)), hwb, World.cell?_of_block (w := w) (HB.out.block 0 HTAB0.out.1)]
      exact HTAB0.out.2 i hi)
     have HWB := Aside0.mk hwb
     clear hwb
     go_wp2_with fail
     go_loopg [4] (P.length / 64) (fun kq v4 w' => ∃ (sv rest : List Int) (A : Option Addr) (L3 cap3 : Nat), v4 = .slice A L3 cap3 ∧ Aside0 (L3 = rest.length) ∧ Aside0 (rest.length = 64 * kq) ∧ Aside0 (L3 ≤ cap3) ∧ Aside0 (sv.length = 8) ∧ Aside0 (∀ x ∈ rest, 0 ≤ x ∧ x ≤ 255) ∧ Aside0 (blocks shaTab kq sv rest = blocks shaTab (P.length / 64) H0 P) ∧ Aside0 (Src wb w.heap.size A rest) ∧ Aside0 (Arr w' w.heap.size 136 sv) ∧ Aside0 (wb.grownBy w' (some w.heap.size)))
     case atStart => exact ⟨H0, P, _, L2, cap2, rfl, HL2, HN, ⟨hL21⟩, ⟨rfl⟩, ⟨by rw [HP.out]; exact padded_range s⟩, ⟨rfl⟩, ⟨by rw [HWB.out]; exact HSRC.out⟩, HA, ⟨by rw [HWB.out]; exact grown_refl _ _⟩⟩
     case round =>
      clear HA
      obtain ⟨sv, rest, A, L3, cap3, rfl, HL3, HR3, HC3, HH, HRG, HBL, HS3, HA, HG⟩ := hrel
      cases gk with
      | zero =>
       obtain rfl : L3 = 0 := by rw [HL3.out, HR3.out]
       have HBW := Aside0.mk (HB.out.grown (by rw [← HWB.out]; exact HG.out) (by have := HTAB0.out.1; have := HB.out.size; omega) (fun k hk => by injection hk with hk; omega))
       have HS9 := Aside0.mk (show sv = blocks shaTab (P.length / 64) H0 P from by rw [← HBL.out]; rfl)
       have hwl := HA.out.lt
       go_wp2_with (first
        | ((with_reducible refine gate_dst (N := 226) rfl ?_); refine arr_load rfl 136 (.tmp 3) rfl w.heap.size rfl sv (HA.out.alloc _) 8 135 Tryz.underlying136 size136 HH.out ?_))
       go_loopg [18, 227] 8 (fun kq v18 v227 w' => ∃ k : Nat, v227 = .int .i64 (k : Int) ∧ Aside0 (k + kq = 8) ∧ Aside0 (OwnM w' w.heap.size 5 v18 (out (sv.take k))) ∧ Aside0 (Below w.heap.size w w'))
       case atStart => exact ⟨0, rfl, ⟨rfl⟩, ⟨own_empty wr 5 _ (by omega)⟩, ⟨below_alloc HBW.out _⟩⟩
       case round =>
        clear HBW
        obtain ⟨k, rfl, HK, HO, HB9⟩ := hrel
        cases gk with
        | zero =>
         obtain rfl : k = 8 := by have := HK.out; omega
         go_wp2_with (first
          | ((with_reducible refine gate_dst (N := 246) rfl ?_); refine str_event wr 22 9 5 rfl (.tmp 245) rfl Tryz.underlying22 Tryz.underlying5 Tryz.underlying9 _ _ rfl HO.out ?_))
         go_ret
         have h8 : sv.take 8 = sv := List.take_of_length_le (by rw [HH.out]; omega)
         refine ⟨?_, HB9.out⟩
         rw [h8, HS9.out, HP.out]
         rfl
        | succ k7 =>
         have hk8 : decide ((k : Int) < 8) = true := by have := HK.out; simp; omega
         have hk8' : decide (k < 8) = true := by have := HK.out; simp; omega
         have hkk : k < 8 := by have := HK.out; omega
         obtain ⟨x9, hx9⟩ : ∃ z, sv.getD k 0 = z := ⟨_, rfl⟩
         have HX9 := Aside0.mk hx9
         clear hx9
         have hszw : w.heap.size ≤ wr.heap.size := HB9.out.size
         go_wp2_with (first
          | ((with_reducible refine gate_dst (N := 229) rfl ?_); refine arr_index rfl 136 (.tmp 226) (.tmp 227) rfl sv k rfl rfl 8 135 Tryz.underlying136 Tryz.underlying135 size135 HH.out hkk ?_; rw [HX9.out])
          | ((with_reducible refine gate_dst (N := 243) rfl ?_); refine Buf.wpList_append_M _ w.heap.size 5 rfl (.tmp 230) (.tmp 242) 22 rfl Tryz.underlying22 info5 _ (out (sv.take k)) rfl (HO.out.alloc _) ⟨wr.heap.size, 0, none⟩ 4 4 [x9 / 16777216 % 256, x9 / 65536 % 256, x9 / 256 % 256, x9 % 256] rfl rfl (lit_cells wr 5 _ _ rfl) (by rw [out_length, List.length_take]; simp; omega) (by simp; omega) ?_; intro v2 w2 ho2 hg2; have HO2 := Aside0.mk ho2; have HB2 := Aside0.mk ((below_alloc HB9.out _).grown hg2 (by simp; omega) (fun k hk => by have := HO.out.lt k hk; omega)); clear ho2 hg2))
         go_roundg k7
         case measure => omega
         case rel => exact ⟨k + 1, by go_num, ⟨by have := HK.out; omega⟩, ⟨by rw [← out_take _ _ (by rw [HH.out]; exact hkk), HX9.out]; exact HO2.out⟩, HB2⟩
      | succ k3 =>
       have hl64 : 64 ≤ L3 := by rw [HL3.out, HR3.out]; omega
       have hl0 : decide (0 < (L3 : Int)) = true := by simp; omega
       have hl1 : decide (0 < L3) = true := by simp; omega
       obtain ⟨gw, hgw⟩ : ∃ gw, wr.heap.size = gw := ⟨_, rfl⟩
       have HGW := Aside0.mk hgw
       have hgwn : w.heap.size < gw := by have := HA.out.lt; omega
       clear hgw
       go_wp2_with (first
        | ((with_reducible refine gate_dst (N := 53) rfl ?_); refine arr_build0 rfl 138 rfl Z64 built138 ?_)
        | ((with_reducible refine gate_dst (N := 7) rfl ?_); refine arr_alloc gw HGW.out rfl 138 rfl Z64 64 info138 ?_; intro w5 hz5 hb5; have HZ5 := Aside0.mk hz5; have HA5 := Aside0.mk (HA.out.below hb5); have HG5 := Aside0.mk (grown_below HG.out hb5); clear hz5 hb5)
        | ((with_reducible refine gate_store (t := 138) (p := 7) rfl ?_); refine arr_store rfl rfl 138 (.tmp 7) (.tmp 53) rfl _ Z64 rfl rfl Z64 HZ5.out 64 size138 z64_len z64_len ?_; intro w6 hz6 hg6; have HZ6 := Aside0.mk hz6; have HA6 := Aside0.mk (HA5.out.grown hg6 (by have := HA.out.lt; have := HGW.out; simp; omega)); have HG6 := Aside0.mk (grown_trans HG5.out hg6 (.inl (fun k hk => by injection hk with hk; have := HG.out.size; have := HGW.out; omega))); clear hz6 hg6))
       go_loopg [54] 64 (fun kq v54 w' => ∃ k : Nat, v54 = .int .i64 (k : Int) ∧ Aside0 (k + kq = 64) ∧ Aside0 (Arr w' gw 138 (wArr (rest.take 64) k)) ∧ Aside0 (Arr w' w.heap.size 136 sv) ∧ Aside0 (wb.grownBy w' (some w.heap.size)))
       case atStart => exact ⟨0, rfl, ⟨rfl⟩, HZ6, HA6, HG6⟩
       case round =>
        have HG0 := HG
        clear HA6 HG6 HZ6 HA5 HG5 HZ5 HA HG
        obtain ⟨k, rfl, HK, HZ, HA, HG⟩ := hrel
        cases gk with
        | zero =>
         obtain rfl : k = 64 := by have := HK.out; omega
         obtain ⟨gv, hgv⟩ : ∃ gv, wr.heap.size = gv := ⟨_, rfl⟩
         have HGV := Aside0.mk hgv
         have hgvw : gw < gv := by have := HZ.out.lt; omega
         have HGBw := Aside0.mk (show wb.heap.size ≤ gw by have := HG0.out.size; have := HGW.out; omega)
         have HGBv := Aside0.mk (show wb.heap.size ≤ gv by have := HGBw.out; omega)
         clear hgv
         go_wp2_with (first
          | ((with_reducible refine gate_dst (N := 132) rfl ?_); refine arr_load rfl 136 (.tmp 3) rfl w.heap.size rfl sv HA.out 8 135 Tryz.underlying136 size136 HH.out ?_)
          | ((with_reducible refine gate_dst (N := 11) rfl ?_); refine arr_alloc gv HGV.out rfl 136 rfl Z8 8 info136 ?_; intro w7 hz7 hb7; have HV7 := Aside0.mk hz7; have HZ7 := Aside0.mk (HZ.out.below hb7); have HA7 := Aside0.mk (HA.out.below hb7); have HG7 := Aside0.mk (grown_below HG.out hb7); clear hz7 hb7)
          | ((with_reducible refine gate_store (t := 136) (p := 11) rfl ?_); refine arr_store rfl rfl 136 (.tmp 11) (.tmp 132) rfl gv sv rfl rfl Z8 HV7.out 8 size136 rfl HH.out ?_; intro w8 hz8 hg8; have HV8 := Aside0.mk hz8; have HZ8 := Aside0.mk (HZ7.out.grown hg8 (fun e => by injection e with e; omega)); have HA8 := Aside0.mk (HA7.out.grown hg8 (fun e => by injection e with e; omega)); have HG8 := Aside0.mk (grown_trans HG7.out hg8 (.inl (fun k hk => by injection hk with hk; have := HGBv.out; omega))); clear hz8 hg8))
         go_loopg [133] 64 (fun kq v133 w' => ∃ k : Nat, v133 = .int .i64 (k : Int) ∧ Aside0 (k + kq = 64) ∧ Aside0 (Arr w' gv 136 (rnds shaTab (wArr (rest.take 64) 64) sv k)) ∧ Aside0 (Arr w' gw 138 (wArr (rest.take 64) 64)) ∧ Aside0 (Arr w' w.heap.size 136 sv) ∧ Aside0 (wb.grownBy w' (some w.heap.size)))
         case atStart => exact ⟨0, rfl, ⟨rfl⟩, HV8, HZ8, HA8, HG8⟩
         case round =>
          clear HV8 HZ8 HA8 HG8 HV7 HZ7 HA7 HG7 HZ HA HG
          obtain ⟨k, rfl, HK, HV, HZ, HA, HG⟩ := hrel
          cases gk with
          | zero =>
           obtain rfl : k = 64 := by have := HK.out; omega
           have hvl : (rnds shaTab (wArr (rest.take 64) 64) sv 64).length = 8 := rnds_length _ _ _ HH.out _
           obtain ⟨v, hv⟩ : ∃ v, rnds shaTab (wArr (rest.take 64) 64) sv 64 = v := ⟨_, rfl⟩
           have HVE := Aside0.mk hv
           rw [hv] at hvl
           have HV0 := Aside0.mk (show Arr wr gv 136 v by rw [← hv]; exact HV.out)
           have HVL := Aside0.mk hvl
           clear hv HV hvl
           have HG1 := HG
           go_wp2_with fail
           go_loopg [213] 8 (fun kq v213 w' => ∃ k : Nat, v213 = .int .i64 (k : Int) ∧ Aside0 (k + kq = 8) ∧ Aside0 (Arr w' gv 136 v) ∧ Aside0 (Arr w' w.heap.size 136 (sumTo sv v k)) ∧ Aside0 (wb.grownBy w' (some w.heap.size)))
           case atStart => exact ⟨0, rfl, ⟨rfl⟩, HV0, ⟨by rw [sumTo_zero]; exact HA.out⟩, HG⟩
           case round =>
            clear HV0 HZ HA HG
            obtain ⟨k, rfl, HK, HV, HA, HG⟩ := hrel
            cases gk with
            | zero =>
             obtain rfl : k = 8 := by have := HK.out; omega
             obtain ⟨A4, hs4, hr4, hc4⟩ := print_cut_len 22 5 Tryz.underlying22 info5 A L3 cap3 (by omega) HC3.out
             go_wp2_with fail

             go_roundg k3
             case measure => omega
             case rel => exact ⟨block shaTab sv (rest.take 64), rest.drop 64, A4, L3 - 64, cap3 - 64, by rfl, ⟨by have := HL3.out; rw [List.length_drop]; omega⟩, ⟨by have := HR3.out; rw [List.length_drop]; omega⟩, ⟨by have := HC3.out; omega⟩, ⟨block_length _ _ _ HH.out⟩, ⟨fun x hx => HRG.out x (List.mem_of_mem_drop hx)⟩, ⟨by rw [← HBL.out]; rfl⟩, ⟨fun w1 hw1 => by
              have h1 := hr4 w1 rest (by rw [HL3.out]; exact HS3.out w1 hw1)
              rw [List.length_drop, ← HL3.out]
              exact h1⟩, ⟨by
              have h1 := HA.out
              rw [sumTo_all sv v (by rw [HH.out, HVL.out]) 8 HH.out.symm, ← HVE.out, wArr_all] at h1
              exact h1⟩, HG⟩
            | succ k6 =>
             have hk8 : decide ((k : Int) < 8) = true := by have := HK.out; simp; omega
             have hk8' : decide (k < 8) = true := by have := HK.out; simp; omega
             have hkk : k < 8 := by have := HK.out; omega
             have hx0 := HA.out.cell k (by rw [sumTo_length _ _ _ (by rw [HH.out, HVL.out]), HH.out]; exact hkk)
             rw [sumTo_at _ _ _ (by rw [HH.out, HVL.out]) (by rw [HH.out]; exact hkk)] at hx0
             have hx1 := HV.out.cell k (by rw [HVL.out]; exact hkk)
             have hf0 := HA.out.fro k
             obtain ⟨x0, hx0e⟩ : ∃ z, sv.getD k 0 = z := ⟨_, rfl⟩
             obtain ⟨x1, hx1e⟩ : ∃ z, v.getD k 0 = z := ⟨_, rfl⟩
             rw [hx0e] at hx0
             rw [hx1e] at hx1
             have HX0 := Aside0.mk hx0e
             have HX1 := Aside0.mk hx1e
             clear hx0e hx1e
             have kp : (0 : Int) ≤ (k : Int) := by omega
             have kq : (k : Int) < 8 := by omega
             go_wp2_with fail
             refine QT.wp_region_quiet_tail 8 (by kernel_rfl) (by kernel_rfl) ?_
             simp only [List.take_succ_cons, List.take_zero, List.drop_succ_cons, List.drop_zero]
             repeat (quiet_step (fail))
             refine wpQuiet_nil ?_
             intro wd nd hwd
             subst hwd
             go_wp2_with fail
             go_roundg k6
             case measure => omega
             case rel => exact ⟨k + 1, by go_num, ⟨by have := HK.out; omega⟩, ⟨(HV.out.drewN nd).far (by show gv ≠ w.heap.size; omega) _⟩, ⟨by
              have h1 := (HA.out.drewN nd).set k (add x0 x1)
              rw [← sumTo_set sv v k (by rw [HH.out, HVL.out]) (by rw [HH.out]; exact hkk), HX0.out, HX1.out]
              exact h1⟩, ⟨grown_set (grown_drewN HG.out nd) (.inr rfl) _⟩⟩
          | succ k5 =>
           have hk64 : decide ((k : Int) < 64) = true := by have := HK.out; simp; omega
           have hk64' : decide (k < 64) = true := by have := HK.out; simp; omega
           have hkk : k < 64 := by have := HK.out; omega
           have hxw := HZ.out.cell k (by rw [wArr_length _ _ (by omega)]; exact hkk)
           obtain ⟨xw, hxwe⟩ : ∃ z, (wArr (rest.take 64) 64).getD k 0 = z := ⟨_, rfl⟩
           rw [hxwe] at hxw
           have HXW := Aside0.mk hxwe
           clear hxwe
           have hxk := HTAB.out wr (HG.out) k hkk
           obtain ⟨xk, hxke⟩ : ∃ z, shaTab.getD k 0 = z := ⟨_, rfl⟩
           rw [hxke] at hxk
           have HXK := Aside0.mk hxke
           clear hxke
           obtain ⟨y0, y1, y2, y3, y4, y5, y6, y7, hy⟩ := eight (rnds_length shaTab (wArr (rest.take 64) 64) sv HH.out k)
           have HV1 := Aside0.mk (show Arr wr gv 136 [y0, y1, y2, y3, y4, y5, y6, y7] by rw [← hy]; exact HV.out)
           have HY := Aside0.mk hy
           clear hy
           have c0 := HV1.out.cell 0 (by simp)
           have c1 := HV1.out.cell 1 (by simp)
           have c2 := HV1.out.cell 2 (by simp)
           have c3 := HV1.out.cell 3 (by simp)
           have c4 := HV1.out.cell 4 (by simp)
           have c5 := HV1.out.cell 5 (by simp)
           have c6 := HV1.out.cell 6 (by simp)
           have c7 := HV1.out.cell 7 (by simp)
           simp only [List.getD_cons_zero, List.getD_cons_succ] at c0 c1 c2 c3 c4 c5 c6 c7
           have kp : (0 : Int) ≤ (k : Int) := by omega
           have kq : (k : Int) < 64 := by omega
           go_wp2_with fail
           go_quiet (fail)
           go_wp2_with fail

           go_quiet ((go_at_call 127; (first | refine rolled_q2 _ _ _ _ _ ?_ ?_ | refine rolled_q1 _ _ _ _ ?_ ?_) <;> decide))
           go_wp2_with fail

           go_quiet ((go_at_call 127; (first | refine rolled_q2 _ _ _ _ _ ?_ ?_ | refine rolled_q1 _ _ _ _ ?_ ?_) <;> decide))
           go_wp2_with (first
            | ((with_reducible refine gate_store (t := 136) (p := 11) rfl ?_); refine arr_store rfl rfl 136 (.tmp 11) (.tmp 211) rfl gv [(one xk xw y4 y5 y6 y7 + two y0 y1 y2) % 4294967296, y0, y1, y2, (y3 + one xk xw y4 y5 y6 y7) % 4294967296, y4, y5, y6] rfl rfl [y0, y1, y2, y3, y4, y5, y6, y7] (HV1.out.drewN _) 8 size136 rfl rfl ?_; intro w8 hz8 hg8; have HV8 := Aside0.mk hz8; have HZ8 := Aside0.mk ((HZ.out.drewN _).grown hg8 (fun e => by injection e with e; omega)); have HA8 := Aside0.mk ((HA.out.drewN _).grown hg8 (fun e => by injection e with e; omega)); have HG8 := Aside0.mk (grown_trans (grown_drewN HG.out _) hg8 (.inl (fun k hk => by injection hk with hk; have := HGBv.out; omega))); clear hz8 hg8))

           go_roundg k5
           case measure => omega
           case rel => exact ⟨k + 1, by go_num, ⟨by have := HK.out; omega⟩, ⟨by
            have h1 := HV8.out
            rw [show rnds shaTab (wArr (rest.take 64) 64) sv (k + 1) = rnd (shaTab.getD k 0) ((wArr (rest.take 64) 64).getD k 0) (rnds shaTab (wArr (rest.take 64) 64) sv k) from rfl, HY.out, HXK.out, HXW.out]
            exact h1⟩, HZ8, HA8, HG8⟩
        | succ k4 =>
         have hk64 : decide ((k : Int) < 64) = true := by have := HK.out; simp; omega
         have hk64' : decide (k < 64) = true := by have := HK.out; simp; omega
         have HGB := Aside0.mk (show wb.heap.size ≤ gw by have := HG0.out.size; have := HGW.out; omega)
         have hkk : k < 64 := by have := HK.out; omega
         have hwk := HZ.out.cell k (by rw [wArr_length _ _ (by omega)]; exact hkk)
         obtain ⟨zk, hzk⟩ : ∃ z, (wArr (rest.take 64) k).getD k 0 = z := ⟨_, rfl⟩
         rw [hzk] at hwk
         clear hzk
         have hwf := HZ.out.fro k
         by_cases h16 : k < 16
         ·have hk16 : decide ((k : Int) < 16) = true := by simp; omega
          have hk16' : decide (k < 16) = true := by simp; omega
          have hrd := HS3.out _ HG.out
          have hlen : 64 ≤ rest.length := by have := HL3.out; omega
          obtain ⟨ad, hA0, hx0⟩ := hrd.at_ (4 * (k : Int)) (by omega) (by omega)
          obtain ⟨_, e1, hx1⟩ := hrd.at_ (4 * (k : Int) + 1) (by omega) (by omega)
          obtain rfl := Option.some.inj (hA0.symm.trans e1)
          obtain ⟨_, e2, hx2⟩ := hrd.at_ (4 * (k : Int) + 2) (by omega) (by omega)
          obtain rfl := Option.some.inj (hA0.symm.trans e2)
          obtain ⟨_, e3, hx3⟩ := hrd.at_ (4 * (k : Int) + 3) (by omega) (by omega)
          obtain rfl := Option.some.inj (hA0.symm.trans e3)
          clear e1 e2 e3 hrd
          subst hA0
          have r0 := rd_range HRG.out (4 * (k : Int))
          have r1 := rd_range HRG.out (4 * (k : Int) + 1)
          have r2 := rd_range HRG.out (4 * (k : Int) + 2)
          have r3 := rd_range HRG.out (4 * (k : Int) + 3)
          obtain ⟨b0, hb0'⟩ : ∃ b, rd rest (4 * (k : Int)) = b := ⟨_, rfl⟩
          obtain ⟨b1, hb1'⟩ : ∃ b, rd rest (4 * (k : Int) + 1) = b := ⟨_, rfl⟩
          obtain ⟨b2, hb2'⟩ : ∃ b, rd rest (4 * (k : Int) + 2) = b := ⟨_, rfl⟩
          obtain ⟨b3, hb3'⟩ : ∃ b, rd rest (4 * (k : Int) + 3) = b := ⟨_, rfl⟩
          rw [hb0'] at hx0 r0
          rw [hb1'] at hx1 r1
          rw [hb2'] at hx2 r2
          rw [hb3'] at hx3 r3
          have HB0 := Aside0.mk hb0'
          have HB1' := Aside0.mk hb1'
          have HB2' := Aside0.mk hb2'
          have HB3 := Aside0.mk hb3'
          clear hb0' hb1' hb2' hb3'
          go_wp2_with fail
          have hw0 : IntKind.i64.wrap (4 * (k : Int)) = 4 * (k : Int) := IntWalk.i64_in _ (by omega)
          have hw1 : IntKind.i64.wrap (4 * (k : Int) + 1) = 4 * (k : Int) + 1 := IntWalk.i64_in _ (by omega)
          have hw2 : IntKind.i64.wrap (4 * (k : Int) + 2) = 4 * (k : Int) + 2 := IntWalk.i64_in _ (by omega)
          have hw3 : IntKind.i64.wrap (4 * (k : Int) + 3) = 4 * (k : Int) + 3 := IntWalk.i64_in _ (by omega)
          have p0 : (0 : Int) ≤ 4 * (k : Int) := by omega
          have p1 : (0 : Int) ≤ 4 * (k : Int) + 1 := by omega
          have p2 : (0 : Int) ≤ 4 * (k : Int) + 2 := by omega
          have p3 : (0 : Int) ≤ 4 * (k : Int) + 3 := by omega
          have q0 : 4 * (k : Int) < (L3 : Int) := by omega
          have q1 : 4 * (k : Int) + 1 < (L3 : Int) := by omega
          have q2 : 4 * (k : Int) + 2 < (L3 : Int) := by omega
          have q3 : 4 * (k : Int) + 3 < (L3 : Int) := by omega
          have u0' : IntKind.u32.wrap b0 = b0 := by rw [IntKind.wrap_u32]; omega
          have u1' : IntKind.u32.wrap b1 = b1 := by rw [IntKind.wrap_u32]; omega
          have u2' : IntKind.u32.wrap b2 = b2 := by rw [IntKind.wrap_u32]; omega
          have u3' : IntKind.u32.wrap b3 = b3 := by rw [IntKind.wrap_u32]; omega
          have kp : (0 : Int) ≤ (k : Int) := by omega
          have kq : (k : Int) < 64 := by omega
          refine QT.wp_region_quiet_tail 35 (by kernel_rfl) (by kernel_rfl) ?_
          simp only [List.take_succ_cons, List.take_zero, List.drop_succ_cons, List.drop_zero]
          repeat (quiet_step (fail))
          refine wpQuiet_nil ?_
          intro wd nd hwd
          subst hwd
          go_wp2_with fail
          go_roundg k4
          case measure => omega
          case rel => exact ⟨k + 1, by go_num, ⟨by have := HK.out; omega⟩, ⟨by
           have h1 := (HZ.out.drewN nd).set k (be b0 b1 b2 b3)
           have hV : wordAt (rest.take 64) (wpre (rest.take 64) k) k = be b0 b1 b2 b3 := by
            rw [wordAt_low _ _ k h16, ← HB0.out, ← HB1'.out, ← HB2'.out, ← HB3.out, rd_take (by omega), rd_take (by omega), rd_take (by omega), rd_take (by omega), show (4 * (k : Int)).toNat = 4 * k by omega, show (4 * (k : Int) + 1).toNat = 4 * k + 1 by omega, show (4 * (k : Int) + 2).toNat = 4 * k + 2 by omega, show (4 * (k : Int) + 3).toNat = 4 * k + 3 by omega]
           rw [← wArr_set _ _ hkk, hV]
           exact h1⟩, ⟨(HA.out.drewN nd).far (by show w.heap.size ≠ gw; omega) _⟩, ⟨grown_set (grown_drewN HG.out nd) (.inl (by show wb.heap.size ≤ gw; exact HGB.out)) _⟩⟩
         ·have hk16 : decide ((k : Int) < 16) = false := by simp; omega
          have hk16' : decide (k < 16) = false := by simp; omega
          have hx15 := HZ.out.cell (k - 15) (by rw [wArr_length _ _ (by omega)]; omega)
          have hx2 := HZ.out.cell (k - 2) (by rw [wArr_length _ _ (by omega)]; omega)
          have hx16 := HZ.out.cell (k - 16) (by rw [wArr_length _ _ (by omega)]; omega)
          have hx7 := HZ.out.cell (k - 7) (by rw [wArr_length _ _ (by omega)]; omega)
          rw [wArr_at _ _ _ (by omega)] at hx15 hx2 hx16 hx7
          obtain ⟨y15, hy15⟩ : ∃ z, (wpre (rest.take 64) k).getD (k - 15) 0 = z := ⟨_, rfl⟩
          obtain ⟨y2, hy2⟩ : ∃ z, (wpre (rest.take 64) k).getD (k - 2) 0 = z := ⟨_, rfl⟩
          obtain ⟨y16, hy16⟩ : ∃ z, (wpre (rest.take 64) k).getD (k - 16) 0 = z := ⟨_, rfl⟩
          obtain ⟨y7, hy7⟩ : ∃ z, (wpre (rest.take 64) k).getD (k - 7) 0 = z := ⟨_, rfl⟩
          rw [hy15, show k - 15 = ((k : Int) - 15).toNat by omega] at hx15
          rw [hy2, show k - 2 = ((k : Int) - 2).toNat by omega] at hx2
          rw [hy16, show k - 16 = ((k : Int) - 16).toNat by omega] at hx16
          rw [hy7, show k - 7 = ((k : Int) - 7).toNat by omega] at hx7
          have HY15 := Aside0.mk hy15
          have HY2 := Aside0.mk hy2
          have HY16 := Aside0.mk hy16
          have HY7 := Aside0.mk hy7
          clear hy15 hy2 hy16 hy7
          have p15 : (0 : Int) ≤ (k : Int) - 15 := by omega
          have p2 : (0 : Int) ≤ (k : Int) - 2 := by omega
          have p16 : (0 : Int) ≤ (k : Int) - 16 := by omega
          have p7 : (0 : Int) ≤ (k : Int) - 7 := by omega
          have s15 : (15 : Int) ≤ (k : Int) := by omega
          have s2 : (2 : Int) ≤ (k : Int) := by omega
          have s16 : (16 : Int) ≤ (k : Int) := by omega
          have s7 : (7 : Int) ≤ (k : Int) := by omega
          have q15 : (k : Int) - 15 < 64 := by omega
          have q2 : (k : Int) - 2 < 64 := by omega
          have q16 : (k : Int) - 16 < 64 := by omega
          have q7 : (k : Int) - 7 < 64 := by omega
          have kp : (0 : Int) ≤ (k : Int) := by omega
          have kq : (k : Int) < 64 := by omega
          have w15 : IntKind.i64.wrap ((k : Int) - 15) = (k : Int) - 15 := IntWalk.i64_in _ (by omega)
          have w2 : IntKind.i64.wrap ((k : Int) - 2) = (k : Int) - 2 := IntWalk.i64_in _ (by omega)
          have w16 : IntKind.i64.wrap ((k : Int) - 16) = (k : Int) - 16 := IntWalk.i64_in _ (by omega)
          have w7 : IntKind.i64.wrap ((k : Int) - 7) = (k : Int) - 7 := IntWalk.i64_in _ (by omega)
          go_wp2_with fail
          go_quiet (fail)
          go_wp2_with fail

          refine QT.wp_region_quiet_tail 29 (by kernel_rfl) (by kernel_rfl) ?_
          simp only [List.take_succ_cons, List.take_zero, List.drop_succ_cons, List.drop_zero]
          repeat (quiet_step ((go_at_call 127; (first | refine rolled_q2 _ _ _ _ _ ?_ ?_ | refine rolled_q1 _ _ _ _ ?_ ?_) <;> decide)))

          refine wpQuiet_nil ?_
          intro wd nd hwd
          subst hwd
          go_wp2_with fail
          go_roundg k4
          case measure => omega
          case rel => exact ⟨k + 1, by go_num, ⟨by have := HK.out; omega⟩, ⟨by
           have h1 := (HZ.out.drewN (nq + nd)).set k ((y16 + y7 + s0 y15 + s1 y2) % 4294967296)
           have hV : wordAt (rest.take 64) (wpre (rest.take 64) k) k = (y16 + y7 + s0 y15 + s1 y2) % 4294967296 := by
            rw [wordAt_high _ _ k h16, HY16.out, HY7.out, HY15.out, HY2.out]
           rw [← wArr_set _ _ hkk, hV]
           exact h1⟩, ⟨(HA.out.drewN (nq + nd)).far (by show w.heap.size ≠ gw; omega) _⟩, ⟨grown_set (grown_drewN HG.out (nq + nd)) (.inl (by show wb.heap.size ≤ gw; exact HGB.out)) _⟩⟩
    | succ k2 =>
     obtain ⟨g2, cap2, L2, rfl, hL2, hg20, hL21, hL22, hg21⟩ := HO.out.form
     have HL2 := Aside0.mk hL2
     clear hL2
     have hb0 : 0 ≤ b := by have := HBY.out; omega
     have hb1 : b ≤ 56 := by have := HBY.out; have := HKQ.out; omega
     go_wp2_with (first
      | ((with_reducible refine gate_dst (N := 47) rfl ?_); refine Buf.wpList_append_M _ (w.heap.size + 1) 5 rfl (.tmp 41) (.tmp 46) 22 rfl Tryz.underlying22 info5 _ _ rfl (HO.out.alloc _) ⟨wr.heap.size, 0, none⟩ 1 1 [(s.size : Int) * 8 / 2 ^ b.toNat % 256] rfl rfl (lit1 wr 5 _) (by have := HJ.out; unfold zeros at this; simp only [List.length_append, bytesOf_length, List.length_replicate, List.length_cons, List.length_nil, List.length_take, lenBytes]; omega) (by have := HA.out.lt; simp; omega) ?_; intro v2 w2 ho2 hg2; have HO2 := Aside0.mk ho2; have HB2 := Aside0.mk ((below_alloc HB.out _).grown hg2 (by have := HA.out.lt; simp; omega) (fun k hk => by have := HO.out.lt k hk; omega)); have HA2 := Aside0.mk ((HA.out.alloc _).grown hg2 (fun e => by have := HO.out.lt _ e.symm; omega)); clear ho2 hg2))
     go_roundg k2
     case measure => omega
     case rel => exact ⟨b - 8, rfl, ⟨by have := HBY.out; omega⟩, ⟨by have := HKQ.out; omega⟩, ⟨by
      have h1 := HO2.out
      rw [show b.toNat = 8 * k2 by have := HBY.out; omega, List.append_assoc, show [(s.size : Int) * 8 / 2 ^ (8 * k2) % 256] = [lenAt ((s.size : Int) * 8) k2] from rfl, take_len _ _ (by have := HKQ.out; omega)] at h1
      exact h1⟩, HA2, HB2⟩
  | succ k1 =>
   have h56 : ((L : Int) % 64 != 56) = true := by
    have := HJ.out
    unfold zeros at this
    rw [bne_iff_ne]
    omega
   clear hLs
   go_wp2_with (first
    | ((with_reducible refine gate_dst (N := 32) rfl ?_); refine Buf.wpList_append_M _ (w.heap.size + 1) 5 rfl (.tmp 30) (.tmp 31) 22 rfl Tryz.underlying22 info5 _ ((bytesOf s ++ [128]) ++ List.replicate j 0) rfl (HO.out.alloc _) ⟨wr.heap.size, 0, none⟩ 1 1 [0] rfl rfl (lit1 wr 5 0) (by have := HL.out; have := HJ.out; unfold zeros at this; simp; rw [bytesOf_length]; omega) (by have := HA.out.lt; simp; omega) ?_; intro v2 w2 ho2 hg2; have HO2 := Aside0.mk ho2; have HB2 := Aside0.mk ((below_alloc HB.out _).grown hg2 (by have := HA.out.lt; simp; omega) (fun k hk => by have := HO.out.lt k hk; omega)); have HA2 := Aside0.mk ((HA.out.alloc _).grown hg2 (fun e => by have := HO.out.lt _ e.symm; omega)); clear ho2 hg2))
   go_roundg k1
   case measure => omega
   case rel => exact ⟨j + 1, ⟨by have := HJ.out; omega⟩, ⟨by rw [List.replicate_succ', ← List.append_assoc]; exact HO2.out⟩, HA2, HB2⟩
end Go.Proofs.YtnjdoinlnbjedaaGreatDoor.M
end

section
/- impl.sha256Of: the sum of a text, by the walk of Sha256. -/
namespace Go.Proofs.YtnjdoinlnbjedaaGreatDoor.Rf
open Go Go.RowKit
set_option linter.unusedVariables false
set_option linter.unusedSimpArgs false
abbrev q2l.ps : List Par := [⟨.str, .rd⟩]
abbrev q2l.rs : List Res := [⟨.str, .ro, false⟩]
def q2l.F (_ : Nat) (x : ByteArray) : Option ByteArray := if x.size ≤ 1099511627776 then some (qfc x) else none
def q2l.f (k : Nat) (s : ByteArray) : Option ByteArray := q2l.F k s
theorem q2l.can : Can Tryz.prog 73 := q5p (fn := Tryz.f73) (by kernel_rfl) (by kernel_rfl) (by kernel_rfl)
theorem q2l.snd (k : Nat) : Snd Tryz.prog Jp 73 ⟨q2l.ps, q2l.rs, q2l.F k⟩ := by
 refine q7y rfl ?_
 intro (s : ByteArray) r hr ξ w vs wf hj hsz ha
 simp only [q2l.F] at hr
 split at hr
 case isFalse => cases hr
 rename_i h
 obtain rfl := Option.some.inj hr
 obtain ⟨T0, h0⟩ := ha 0 _ _ rfl rfl
 obtain rfl := qa1 hsz (q5q (by simp) h0)
 refine (Go.Proofs.YtnjdoinlnbjedaaGreatDoor.M.sha_calls s w h ⟨hj.s⟩).mono ?_
 rintro e w' ⟨rfl, hb⟩
 exact ⟨_, Em, rfl, hb, q8u _ _ _ _, fun b hb => hb.elim⟩
end Go.Proofs.YtnjdoinlnbjedaaGreatDoor.Rf
end

section
/- impl.hmacOf, walked: keys of at most 64 bytes. -/
namespace Go.Proofs.YtnjdoinlnbjedaaGreatDoor.M
open Go.RowKit Go.Proofs.YtnjdoinlnbjedaaGreatDoorW.PrintWords Go.Proofs.YtnjdoinlnbjedaaGreatDoorW.PrintLast Go.Proofs.YtnjdoinlnbjedaaGreatDoorW.PrintMore
open Go.Proofs.YtnjdoinlnbjedaaGreatDoor.Buf Go.Proofs.YtnjdoinlnbjedaaGreatDoor.Sha
attribute [local go_sem] max2_int min2_int max_two min_two max_three min_three max_four min_four   -- for this text's walks alone
set_option linter.unusedVariables false
def Arr8 (w : World) (g : Nat) (xs : List Int) : Prop := w.heap[g]? = some (.cells (nums .u8 xs).toArray 5 (0, 0))
section
variable {w w1 : World} {g : Nat} {xs : List Int}
theorem Arr8.lt (h : Arr8 w g xs) : g < w.heap.size := (Array.getElem?_eq_some_iff.1 h).1
theorem Arr8.move (h : Arr8 w g xs) (hm : w1.heap[g]? = w.heap[g]?) : Arr8 w1 g xs := hm.trans h
theorem Arr8.below (h : Arr8 w g xs) (hb : Below w.heap.size w w1) : Arr8 w1 g xs := h.move (hb.block g h.lt)
theorem Arr8.drew (h : Arr8 w g xs) : Arr8 w.drew g xs := h
theorem Arr8.far (h : Arr8 w g xs) {p : Addr} (hp : g ≠ p.block) (u : Value) : Arr8 (w.setCell p u) g xs := h.move (Below.heap_setCell w p u g hp)
theorem Arr8.cell (h : Arr8 w g xs) (i : Nat) (hi : i < xs.length) : w.cell? ⟨g, i, none⟩ = some (.int .u8 (xs.getD i 0)) := by
 rw [cell_of_row w g i _ _ _ h]
 simp [nums, List.getD_eq_getElem?_getD, List.getElem?_eq_getElem hi]
theorem Arr8.fro (h : Arr8 w g xs) (i : Nat) : w.frozen? ⟨g, i, none⟩ = false := by
 simp [World.frozen?, show w.heap[g]? = some (.cells (nums .u8 xs).toArray 5 (0, 0)) from h]
theorem Arr8.set (h : Arr8 w g xs) (i : Nat) (y : Int) : Arr8 (w.setCell ⟨g, i, none⟩ (.int .u8 y)) g (xs.set i y) := by
 have h0 : w.heap[g]? = some (.cells (nums .u8 xs).toArray 5 (0, 0)) := h
 rw [setCell_eq_setRow w g i _ 5 (0, 0) _ h0]
 unfold Arr8
 rw [setRow_heap w g _ _ 5 _ h0]
 simp [nums, List.map_set]
theorem Arr8.new (w : World) (xs : List Int) : Arr8 (w.alloc (.cells (nums .u8 xs).toArray 5)) w.heap.size xs := heap_alloc_new w _
theorem Arr8.str (h : Arr8 w g xs) (hl : xs.length ≤ 1000000) (c : Nat) : (convert 22 9 (.slice (some ⟨g, 0, none⟩) xs.length c)).run Tryz.prog w = .ok (.string (strOfNums xs)) w := by
 refine string_of_reads Tryz.underlying22 Tryz.underlying5 Tryz.underlying9 ⟨rfl, by omega, fun hp => ⟨_, rfl, fun j hj => ?_⟩⟩
 have hadd : (⟨g, 0, none⟩ : Addr).add j = ⟨g, j, none⟩ := by unfold Addr.add; split <;> simp_all
 rw [hadd]
 exact h.cell j hj
end
theorem make64 (W : World) : (Instr.makeSlice 22 (.int .i64 64) (.int .i64 64)).run Tryz.prog W = .ok (.slice (some ⟨W.heap.size, 0, none⟩) 64 64) (W.alloc (.cells (nums .u8 Z64).toArray 5)) := by
 obtain ⟨i, hi, hz⟩ := Option.map_eq_some_iff.1 info5
 simp only [Prod.mk.injEq] at hz
 have h := run_make (P := Tryz.prog) W 22 5 i (.int .u8 0) Tryz.underlying22 hi hz.1 .i64 .i64 64 64 (by decide) (by decide) (by rw [hz.2.2]; decide) (by decide)
 rw [h, hz.2.1]
 have e : madeCells (Value.int .u8 0).cells (Int.toNat 64 * 1) = (nums .u8 Z64).toArray := by
  apply Array.ext
  ·simp [madeCells, nums, Z64]
  ·intro i h1 h2
   have h3 : i < 64 := by simpa [nums, Z64] using h2
   have h4 : (nums .u8 Z64).toArray[i]'h2 = .int .u8 0 := by
    simp only [nums, Z64, List.map_replicate, List.getElem_toArray, List.getElem_replicate]
   rw [h4]
   simp [madeCells, Value.cells, Nat.mod_one]
 rw [e]
 rfl
def padB (key : ByteArray) : List Int := bytesOf key ++ List.replicate (64 - key.size) 0
theorem padB_length (key : ByteArray) (h : key.size ≤ 64) : (padB key).length = 64 := by simp [padB, bytesOf_length]; omega
def xorTo (c : Int) (xs : List Int) (k : Nat) : List Int := (xs.map fun b => Go.bits .xor .u8 b c).take k ++ xs.drop k
theorem xorTo_length (c : Int) (xs : List Int) (k : Nat) : (xorTo c xs k).length = xs.length := by simp [xorTo]; omega
theorem xorTo_zero (c : Int) (xs : List Int) : xorTo c xs 0 = xs := by simp [xorTo]
theorem xorTo_all (c : Int) (xs : List Int) (k : Nat) (h : xs.length = k) : xorTo c xs k = xs.map fun b => Go.bits .xor .u8 b c := by
 subst h
 simp only [xorTo, List.drop_length, List.append_nil]
 exact List.take_of_length_le (by simp)
theorem xorTo_at (c : Int) (xs : List Int) (k : Nat) (hk : k < xs.length) : (xorTo c xs k).getD k 0 = xs.getD k 0 := by
 simp only [xorTo, List.getD_eq_getElem?_getD]
 rw [List.getElem?_append_right (by simp; omega), List.getElem?_drop]
 simp [show min k xs.length = k by omega]
theorem xorTo_set (c : Int) (xs : List Int) (k : Nat) (hk : k < xs.length) : (xorTo c xs k).set k (Go.bits .xor .u8 (xs.getD k 0) c) = xorTo c xs (k + 1) := by
 have hl : ((xs.map fun b => Go.bits .xor .u8 b c).take k).length = k := by simp; omega
 simp only [xorTo]
 rw [List.set_append_right _ _ (by omega), hl, Nat.sub_self, List.take_succ_eq_append_getElem (by simpa using hk), List.append_assoc]
 congr 1
 rw [List.drop_eq_getElem_cons hk, List.set_cons_zero]
 simp [List.getD_eq_getElem?_getD, hk]
def padx (key : ByteArray) (c : Int) : ByteArray := strOfNums ((padB key).map fun b => Go.bits .xor .u8 b c)
def shaOf (s : ByteArray) : ByteArray := strOfNums (sumOf shaTab (bytesOf s))
theorem sha_of_calls (s : ByteArray) (w : World) (hs : s.size ≤ 1099511627776) (hGs : GWs w) : Calls Tryz.prog 73 #[.string s] w fun e w' => e = .returned (.string (shaOf s)) ∧ Below w.heap.size w w' := sha_calls s w hs hGs
def hmac (key text : ByteArray) : ByteArray := shaOf (padx key 92 ++ shaOf (padx key 54 ++ text))
theorem strOfNums_size (xs : List Int) : (strOfNums xs).size = xs.length := by simp [strOfNums, ByteArray.size]
theorem shaOf_size (s : ByteArray) : (shaOf s).size = 32 := by
 have h : ∀ n (h b : List Int), h.length = 8 → (blocks shaTab n h b).length = 8 := by
  intro n
  induction n with
  | zero => intro h b hh; exact hh
  | succ n ih => intro h b hh; exact ih _ _ (block_length _ _ _ hh)
 rw [shaOf, strOfNums_size, sumOf, out_length, h _ _ _ rfl]
theorem copy_cells (s : ByteArray) (hs : s.size ≤ 64) : ((nums .u8 Z64).toArray.toList.take 0 ++ Lib.byteCells s.data.toList ++ (nums .u8 Z64).toArray.toList.drop (0 + s.size)).toArray = (nums .u8 (padB s)).toArray := by
 have h1 : (nums .u8 Z64).drop s.size = nums .u8 (List.replicate (64 - s.size) 0) := by
  simp only [nums, Z64, List.map_replicate, List.drop_replicate]
 have h2 : Lib.byteCells s.data.toList = nums .u8 (bytesOf s) := by simp only [nums, bytesOf, Lib.byteCells, List.map_map]; rfl
 rw [List.take_zero, List.nil_append, Nat.zero_add, h1, h2, padB, nums_append]
theorem two_new (w : World) : Arr8 ((w.alloc (.cells (nums .u8 Z64).toArray 5)).alloc (.cells (nums .u8 Z64).toArray 5)).drew w.heap.size Z64 ∧ Arr8 ((w.alloc (.cells (nums .u8 Z64).toArray 5)).alloc (.cells (nums .u8 Z64).toArray 5)).drew (w.heap.size + 1) Z64 ∧ Below w.heap.size w ((w.alloc (.cells (nums .u8 Z64).toArray 5)).alloc (.cells (nums .u8 Z64).toArray 5)).drew := by
 refine ⟨((Arr8.new w Z64).below (below_alloc (Below.refl _ _) (.cells (nums .u8 Z64).toArray 5))).drew, ?_, below_drew1 (below_alloc (below_alloc (Below.refl _ _) _) _)⟩
 have h := Arr8.new (w.alloc (.cells (nums .u8 Z64).toArray 5)) Z64
 have e : (w.alloc (.cells (nums .u8 Z64).toArray 5)).heap.size = w.heap.size + 1 := by simp
 rw [e] at h
 exact h
theorem copy_event {ops : Array Oper} {rest : List Oper} {o : Oper} {a : Act} {Q : Exit → Act → World → Prop} {W : World} (hgd : o.guard = none) (d x : Operand)
  (ho : o.op = .call { callee := .builtin .copy, args := #[d, x], argTypes := #[22, 9] }) (g : Nat) (s : ByteArray) (hd : a.eval d = .slice (some ⟨g, 0, none⟩) 64 64) (hx : a.eval x = .string s) (hA : Arr8 W g Z64) (hs : s.size ≤ 64)
  (h : ∀ w1, Arr8 w1 g (padB s) → W.grownBy w1 (some g) → wpList Tryz.prog ops Q rest (a.put o.dst (goInt s.size)) w1) : wpList Tryz.prog ops Q (o :: rest) a W := by
 refine wpList_plain hgd fun K hK => ?_
 obtain ⟨i, hi, hz⟩ := Option.map_eq_some_iff.1 info5
 simp only [Prod.mk.injEq] at hz
 have hr := Lib.run_copy_row_string (P := Tryz.prog) W 22 9 o.type 5 g 0 64 64 s (nums .u8 Z64).toArray 5 Tryz.underlying22 (by rw [hi]; simp [hz.2.1]) hA hs (by simp [nums, Z64]; exact hs)
 have hw : Arr8 (W.setRow g ((nums .u8 Z64).toArray.toList.take 0 ++ Lib.byteCells s.data.toList ++ (nums .u8 Z64).toArray.toList.drop (0 + s.size)).toArray) g (padB s) := by
  unfold Arr8
  rw [setRow_heap W g _ _ 5 _ hA]
  rw [copy_cells s hs]
 have hg : W.grownBy (W.setRow g ((nums .u8 Z64).toArray.toList.take 0 ++ Lib.byteCells s.data.toList ++ (nums .u8 Z64).toArray.toList.drop (0 + s.size)).toArray) (some g) := ⟨rfl, rfl, rfl, by simp, fun k _ hk => setRow_other W g k _ (fun e => hk (by rw [e]))⟩
 unfold Oper.wp execOp
 simp only [ho, resolve, invoke, builtin, Sem.run_bind, Sem.run_pure, Result.andThen_ok, List.map_toArray, List.map_cons, List.map_nil, hd, hx, hr]
 exact hK _ _ (h _ hw hg)
set_option maxHeartbeats 8000000 in
set_option maxRecDepth 100000 in
theorem hmac_calls (key text : ByteArray) (w : World) (hk : key.size ≤ 64) (ht : text.size ≤ 549755813888) (hGs : GWs w) :
  Calls Tryz.prog 44 #[.string key, .string text] w fun e w' => e = .returned (.string (hmac key text)) ∧ Below w.heap.size w w' := by
 have h64 : decide (64 < (key.size : Int)) = false := by simp; omega
 have h64' : decide (64 < key.size) = false := by simp; omega
 have HGS := Aside0.mk hGs
 clear hGs
 go_enter Tryz.func44, Tryz.ntmps44
 go_upto_region 3 with (fail)
 go_cut [5, 6] (fun v5 v6 wc => ∃ gi go : Nat, v5 = .slice (some ⟨gi, 0, none⟩) 64 64 ∧ v6 = .slice (some ⟨go, 0, none⟩) 64 64 ∧ Aside0 (gi ≠ go) ∧ Aside0 (w.heap.size ≤ gi) ∧ Aside0 (w.heap.size ≤ go) ∧ Aside0 (Arr8 wc gi Z64) ∧ Aside0 (Arr8 wc go Z64) ∧ Aside0 (Below w.heap.size w wc))
 case first =>
  have hmk := make64
  go_region
  all_goals
   go_wp2_with fail
   go_meet
  ·exact ⟨_, _, rfl, rfl, ⟨by simp⟩, ⟨by simp⟩, ⟨by simp⟩, ⟨by first | exact (two_new w).1 | exact (two_new w).2.1⟩, ⟨by first | exact (two_new w).1 | exact (two_new w).2.1⟩, ⟨(two_new w).2.2⟩⟩
  ·exact ⟨_, _, rfl, rfl, ⟨by simp⟩, ⟨by simp⟩, ⟨by simp⟩, ⟨by first | exact (two_new w).1 | exact (two_new w).2.1⟩, ⟨by first | exact (two_new w).1 | exact (two_new w).2.1⟩, ⟨(two_new w).2.2⟩⟩
 case rest =>
  obtain ⟨gi, go, rfl, rfl, HNE, HGI, HGO, HAI, HAO, HB⟩ := hcut
  have hne1 : gi ≠ go := HNE.out
  go_wp2_with (first
   | ((with_reducible refine gate_dst (N := 17) rfl ?_); refine copy_event rfl (.tmp 15) (.tmp 16) rfl gi key rfl rfl HAI.out hk ?_; intro w1 h1 hg1; have HAI1 := Aside0.mk h1; have HAO1 := Aside0.mk (HAO.out.move (hg1.block go HAO.out.lt (fun e => by injection e with e; exact hne1 e.symm))); have HB1 := Aside0.mk (HB.out.grown hg1 HB.out.size (fun k hk => by injection hk with hk; have := HGI.out; omega)); clear h1 hg1)
   | ((with_reducible refine gate_dst (N := 20) rfl ?_); refine copy_event rfl (.tmp 18) (.tmp 19) rfl go key rfl rfl HAO1.out hk ?_; intro w1 h1 hg1; have HAO2 := Aside0.mk h1; have HAI2 := Aside0.mk (HAI1.out.move (hg1.block gi HAI1.out.lt (fun e => by injection e with e; exact hne1 e))); have HB2 := Aside0.mk (HB1.out.grown hg1 HB1.out.size (fun k hk => by injection hk with hk; have := HGO.out; omega)); clear h1 hg1))
  go_loopg [23] 64 (fun kq v23 w' => ∃ k : Nat, v23 = .int .i64 (k : Int) ∧ Aside0 (k + kq = 64) ∧ Aside0 (Arr8 w' gi (xorTo 54 (padB key) k)) ∧ Aside0 (Arr8 w' go (xorTo 92 (padB key) k)) ∧ Aside0 (Below w.heap.size w w'))
  case atStart => exact ⟨0, rfl, ⟨rfl⟩, ⟨by rw [xorTo_zero]; exact HAI2.out⟩, ⟨by rw [xorTo_zero]; exact HAO2.out⟩, HB2⟩
  case round =>
   clear HAI HAO HB HAI1 HAO1 HB1 HAI2 HAO2 HB2
   obtain ⟨k, rfl, HK, HAI, HAO, HB⟩ := hrel
   cases gk with
   | zero =>
    obtain rfl : k = 64 := by have := HK.out; omega
    have HXI := Aside0.mk (show Arr8 wr gi ((padB key).map fun b => Go.bits .xor .u8 b 54) by rw [← xorTo_all 54 _ 64 (padB_length _ hk)]; exact HAI.out)
    have HXO := Aside0.mk (show Arr8 wr go ((padB key).map fun b => Go.bits .xor .u8 b 92) by rw [← xorTo_all 92 _ 64 (padB_length _ hk)]; exact HAO.out)
    have hli : ((padB key).map fun b => Go.bits .xor .u8 b 54).length = 64 := by rw [List.length_map, padB_length _ hk]
    have hlo : ((padB key).map fun b => Go.bits .xor .u8 b 92).length = 64 := by rw [List.length_map, padB_length _ hk]
    have hstri : ∀ W : World, Arr8 W gi ((padB key).map fun b => Go.bits .xor .u8 b 54) → (convert 22 9 (.slice (some ⟨gi, 0, none⟩) 64 64)).run Tryz.prog W = .ok (.string (padx key 54)) W := fun W hW => by
     have h1 := hW.str (by rw [hli]; decide) 64
     rw [hli] at h1
     exact h1
    have hstro : ∀ W : World, Arr8 W go ((padB key).map fun b => Go.bits .xor .u8 b 92) → (convert 22 9 (.slice (some ⟨go, 0, none⟩) 64 64)).run Tryz.prog W = .ok (.string (padx key 92)) W := fun W hW => by
     have h1 := hW.str (by rw [hlo]; decide) 64
     rw [hlo] at h1
     exact h1
    have HSO := Aside0.mk hstro
    have hci0 := hstri wr.drew HXI.out.drew
    have hco0 := hstro wr.drew HXO.out.drew
    have hs54 : (padx key 54).size = 64 := by rw [padx, strOfNums_size, hli]
    have hs92 : (padx key 92).size = 64 := by rw [padx, strOfNums_size, hlo]
    have HS54 := Aside0.mk hs54
    have HS92 := Aside0.mk hs92
    have HGW := Aside0.mk (show GWs wr.drew from (HGS.out.below HB.out).below (below_drew1 (Below.refl _ _)))
    have b54 : (padx key 54).size ≤ 64 := by omega
    have b92 : (padx key 92).size ≤ 64 := by omega
    have b32 : (shaOf (padx key 54 ++ text)).size ≤ 32 := by rw [shaOf_size]; exact Nat.le_refl _
    clear hstri hstro hs54 hs92 hli hlo
    go_wp2_with fail
    go_region_with (first
     | (go_at_call 73; (with_reducible refine (sha_of_calls (padx key 54 ++ text) _ (by rw [ByteArray.size_append, HS54.out]; omega) HGW.out).mono ?_); rintro e w1 ⟨rfl, hb1⟩; have hco1 := HSO.out w1 (HXO.out.drew.below hb1); have HB1 := Aside0.mk hb1)
     | (go_at_call 73; (with_reducible refine (sha_of_calls (padx key 92 ++ shaOf (padx key 54 ++ text)) _ (by rw [ByteArray.size_append, HS92.out, shaOf_size]; omega) (HGW.out.below HB1.out)).mono ?_); rintro e w2 ⟨rfl, hb2⟩))
    all_goals
     have HB2 := Aside0.mk hb2
     clear hb2
     go_wp2_with fail
     go_ret
     exact ⟨rfl, below_step (below_step (below_drew1 HB.out) HB1.out) HB2.out⟩
   | succ k1 =>
    have hk64 : decide ((k : Int) < 64) = true := by have := HK.out; simp; omega
    have hk64' : decide (k < 64) = true := by have := HK.out; simp; omega
    have hkk : k < 64 := by have := HK.out; omega
    have hx0 := HAI.out.cell k (by rw [xorTo_length, padB_length _ hk]; exact hkk)
    have hx1 := HAO.out.cell k (by rw [xorTo_length, padB_length _ hk]; exact hkk)
    rw [xorTo_at _ _ _ (by rw [padB_length _ hk]; exact hkk)] at hx0 hx1
    have hf0 := HAI.out.fro k
    have hf1 := HAO.out.fro k
    obtain ⟨x0, hx0e⟩ : ∃ z, (padB key).getD k 0 = z := ⟨_, rfl⟩
    rw [hx0e] at hx0 hx1
    have HX0 := Aside0.mk hx0e
    clear hx0e
    have kp : (0 : Int) ≤ (k : Int) := by omega
    have kq : (k : Int) < 64 := by omega
    go_wp2_with fail
    go_roundg k1
    case measure => omega
    case rel => exact ⟨k + 1, by go_num, ⟨by have := HK.out; omega⟩, ⟨by
     have h1 := (HAI.out.set k (Go.bits .xor .u8 x0 54)).far (p := ⟨go, k, none⟩) hne1 (.int .u8 (Go.bits .xor .u8 x0 92))
     rw [← xorTo_set _ _ _ (by rw [padB_length _ hk]; exact hkk), HX0.out]
     exact h1⟩, ⟨by
     have h1 := (HAO.out.far (p := ⟨gi, k, none⟩) (fun e => hne1 e.symm) (.int .u8 (Go.bits .xor .u8 x0 54))).set k (Go.bits .xor .u8 x0 92)
     rw [← xorTo_set _ _ _ (by rw [padB_length _ hk]; exact hkk), HX0.out]
     exact h1⟩, ⟨((HB.out.setCell (p := ⟨gi, k, none⟩) HGI.out _).setCell (p := ⟨go, k, none⟩) HGO.out _)⟩⟩
end Go.Proofs.YtnjdoinlnbjedaaGreatDoor.M
end

section
/- impl.hmacOf: the keyed sum, by the walk of Hmac. -/
namespace Go.Proofs.YtnjdoinlnbjedaaGreatDoor.Rf
open Go Go.RowKit
set_option linter.unusedVariables false
set_option linter.unusedSimpArgs false
abbrev q2n.ps : List Par := [⟨.str, .rd⟩, ⟨.str, .rd⟩]
abbrev q2n.rs : List Res := [⟨.str, .ro, false⟩]
def q2n.F (_ : Nat) (x : ByteArray × ByteArray) : Option ByteArray := if x.1.size ≤ 64 ∧ x.2.size ≤ 549755813888 then some (Go.Proofs.YtnjdoinlnbjedaaGreatDoor.M.hmac x.1 x.2) else none
def q2n.f (k : Nat) (s t : ByteArray) : Option ByteArray := q2n.F k (s, t)
theorem q2n.can : Can Tryz.prog 44 := q5p (fn := Tryz.f44) (by kernel_rfl) (by kernel_rfl) (by kernel_rfl)
theorem q2n.snd (k : Nat) : Snd Tryz.prog Jp 44 ⟨q2n.ps, q2n.rs, q2n.F k⟩ := by
 refine q7y rfl ?_
 rintro ⟨s, c⟩ r hr ξ w vs wf hj hsz ha
 simp only [q2n.F] at hr
 split at hr
 case isFalse => cases hr
 rename_i h
 obtain rfl := Option.some.inj hr
 obtain ⟨T0, h0⟩ := ha 0 _ _ rfl rfl
 obtain ⟨T1, h1⟩ := ha 1 _ _ rfl rfl
 obtain rfl := qe2 hsz (q5q (by simp) h0) (q5q (by simp) h1)
 refine (Go.Proofs.YtnjdoinlnbjedaaGreatDoor.M.hmac_calls s c w h.1 h.2 ⟨hj.s⟩).mono ?_
 rintro e w' ⟨rfl, hb⟩
 exact ⟨_, Em, rfl, hb, q8u _ _ _ _, fun b hb => hb.elim⟩
end Go.Proofs.YtnjdoinlnbjedaaGreatDoor.Rf
end

section
/- Entries put in one by one by their stems: the one sorted order. Plain. -/
namespace Go.Proofs.YtnjdoinlnbjedaaGreatDoor.Rf
open Go Go.RowKit
set_option linter.unusedVariables false
set_option linter.unusedSimpArgs false
def ltE (a b : (ByteArray × ByteArray)) : Bool := Op.bytesLess a.1.toList b.1.toList
theorem qe3 (a b : (ByteArray × ByteArray)) : ltE a b = Go.Sort.ltStr a.1.toList b.1.toList := Go.Proofs.bytesLess_eq _ _
theorem q65 (a : (ByteArray × ByteArray)) : ltE a a = false := by
 rw [qe3]
 exact Go.Sort.swo_ltStr.irrefl _
theorem q8w {a b c : (ByteArray × ByteArray)} (h1 : ltE a b = true) (h2 : ltE b c = true) : ltE a c = true := by
 rw [qe3] at *
 exact Go.Sort.swo_ltStr.trans _ _ _ h1 h2
theorem qa2 {a b c : (ByteArray × ByteArray)} (h1 : ltE a b = false) (h2 : ltE b c = false) : ltE a c = false := by
 rw [qe3] at *
 exact Go.Sort.swo_ltStr.ntrans _ _ _ h1 h2
theorem qgl {a b : (ByteArray × ByteArray)} (h : ltE a b = true) : ltE b a = false := by
 cases h2 : ltE b a
 ·rfl
 ·have h3 := q8w h h2
  rw [q65] at h3
  cases h3
theorem qjw {a b : (ByteArray × ByteArray)} (h1 : ltE a b = false) (h2 : ltE b a = false) : a.1.toList = b.1.toList := by
 rw [qe3] at *
 simp only [Go.Sort.ltStr, decide_eq_false_iff_not, List.not_lt] at h1 h2
 exact List.le_antisymm h2 h1
def qgm (e : (ByteArray × ByteArray)) : List (ByteArray × ByteArray) → List (ByteArray × ByteArray)
 | [] => [e]
 | x :: xs => if ltE x e = true then x :: qgm e xs else e :: x :: xs
theorem q8x (e : (ByteArray × ByteArray)) : ∀ l, (qgm e l).Perm (e :: l)
 | [] => .refl _
 | x :: xs => by
  unfold qgm
  split
  ·exact ((q8x e xs).cons x).trans (.swap e x xs)
  ·exact .refl _
theorem q8y (e : (ByteArray × ByteArray)) : ∀ l, l.Pairwise (fun a b => ltE b a = false) → (qgm e l).Pairwise (fun a b => ltE b a = false)
 | [], _ => by simp [qgm]
 | x :: xs, h => by
  unfold qgm
  have h' := List.pairwise_cons.1 h
  by_cases c : ltE x e = true
  ·rw [if_pos c]
   refine List.pairwise_cons.2 ⟨fun b hb => ?_, q8y e xs h'.2⟩
   rcases List.mem_cons.1 ((q8x e xs).mem_iff.1 hb) with z | hb
   ·rw [z]
    exact qgl c
   ·exact h'.1 b hb
  ·rw [if_neg c]
   have c' : ltE x e = false := by simpa using c
   refine List.pairwise_cons.2 ⟨fun b hb => ?_, h⟩
   rcases List.mem_cons.1 hb with z | hb
   ·rw [z]
    exact c'
   ·exact qa2 (h'.1 b hb) c'
def q8z (xs : List (ByteArray × ByteArray)) : List (ByteArray × ByteArray) := xs.foldl (fun l e => qgm e l) []
theorem qcd : ∀ (xs l : List (ByteArray × ByteArray)), (xs.foldl (fun l e => qgm e l) l).Perm (l ++ xs)
 | [], l => by simp
 | x :: xs, l => by
  refine (qcd xs (qgm x l)).trans ?_
  refine ((q8x x l).append_right xs).trans ?_
  exact (List.perm_middle (a := x) (l₁ := l) (l₂ := xs)).symm
theorem q90 : ∀ (xs l : List (ByteArray × ByteArray)), l.Pairwise (fun a b => ltE b a = false) → (xs.foldl (fun l e => qgm e l) l).Pairwise (fun a b => ltE b a = false)
 | [], l, h => h
 | x :: xs, l, h => q90 xs _ (q8y x l h)
theorem qe4 : ∀ (xs : List (ByteArray × ByteArray)), (xs.map (fun e => e.1)).Pairwise (fun a b => a ≠ b) → ∀ a ∈ xs, ∀ b ∈ xs, a.1 = b.1 → a = b
 | [], _, a, ha, _, _, _ => by simp at ha
 | x :: xs, h, a, ha, b, hb, e => by
  rw [List.map_cons, List.pairwise_cons] at h
  rcases List.mem_cons.1 ha with za | ha' <;> rcases List.mem_cons.1 hb with zb | hb'
  ·rw [za, zb]
  ·rw [za] at e
   exact absurd e (h.1 _ (List.mem_map.2 ⟨b, hb', rfl⟩))
  ·rw [zb] at e
   exact absurd e.symm (h.1 _ (List.mem_map.2 ⟨a, ha', rfl⟩))
  ·exact qe4 xs h.2 a ha' b hb' e
theorem qd7 {xs ys : List (ByteArray × ByteArray)} (hd : (xs.map (fun e => e.1)).Pairwise (fun a b => a ≠ b)) (hp : ys.Perm xs) (hs : ys.Pairwise (fun a b => ltE b a = false)) : ys = q8z xs := by
 have hq : (q8z xs).Perm xs := by simpa [q8z] using qcd xs []
 refine List.Perm.eq_of_pairwise (le := fun a b => ltE b a = false) ?_ hs (q90 xs [] .nil) (hp.trans hq.symm)
 intro a b ha hb h1 h2
 have e : a.1.toList = b.1.toList := qjw h2 h1
 refine qe4 xs hd a (hp.mem_iff.1 ha) b (hq.mem_iff.1 hb) ?_
 rw [ByteArray.toList_eq, ByteArray.toList_eq] at e
 exact ByteArray.ext (Array.toList_inj.1 e)
end Go.Proofs.YtnjdoinlnbjedaaGreatDoor.Rf
end

section
/- impl.sortEntries, walked by hand: its row holds the one sorted order, where stems are apart. -/
namespace Go.Proofs.YtnjdoinlnbjedaaGreatDoor.Rf
open Go Go.RowKit Go.Sort Go.Lib
set_option linter.unusedVariables false
set_option linter.unusedSimpArgs false
theorem q6u (s : ByteArray) (w : World) : Calls Tryz.prog 173 #[.string s] w fun e w' => e = .returned (.bool false) ∧ w' = w := by
 go_enter Tryz.func173, Tryz.ntmps173
 go_wp2
 go_ret
 exact ⟨by simp, rfl⟩
def qgn (x y : ByteArray) : Int := if Op.bytesLess x.toList y.toList = true then -1 else if (!(Op.bytesLess x.toList y.toList || x.toList == y.toList)) = true then 1 else 0
theorem qar (x y : ByteArray) (w : World) : Calls Tryz.prog 146 #[.string x, .string y] w fun e w' => e = .returned (.int .i64 (qgn x y)) ∧ w' = w := by
 unfold qgn
 cases h1 : Op.bytesLess x.toList y.toList
 ·cases h2 : (x.toList == y.toList)
  ·go_enter Tryz.func146, Tryz.ntmps146
   go_wp2_with (go_at_call 173; refine (q6u _ _).mono ?_; rintro e w' ⟨rfl, rfl⟩)
   go_ret
   exact ⟨by simp, rfl⟩
  ·go_enter Tryz.func146, Tryz.ntmps146
   go_wp2_with (go_at_call 173; refine (q6u _ _).mono ?_; rintro e w' ⟨rfl, rfl⟩)
   go_ret
   exact ⟨by simp, rfl⟩
 ·go_enter Tryz.func146, Tryz.ntmps146
  go_wp2_with (go_at_call 173; refine (q6u _ _).mono ?_; rintro e w' ⟨rfl, rfl⟩)
  go_ret
  exact ⟨by simp, rfl⟩
theorem qex (x y : ByteArray × ByteArray) (w : World) : Calls Tryz.prog 145 #[.agg #[.string x.1, .string x.2], .agg #[.string y.1, .string y.2]] w fun e w' => e = .returned (.int .i64 (qgn x.1 y.1)) ∧ ∃ q os, w' = Go.Sort.grow (w.drewN q) os := by
 go_enter Tryz.func145, Tryz.ntmps145
 go_wp2_with (go_at_call 146; refine (qar _ _ _).mono ?_; rintro e w' ⟨rfl, rfl⟩)
 go_ret
 refine ⟨rfl, 0, #[.cells #[.string x.1, .string x.2] 93, .cells #[.string y.1, .string y.2] 93], ?_⟩
 unfold Go.Sort.grow
 rw [show (w.drewN 0).heap ++ #[Obj.cells #[.string x.1, .string x.2] 93, Obj.cells #[.string y.1, .string y.2] 93] = ((w.heap.push (.cells #[.string x.1, .string x.2] 93)).push (.cells #[.string y.1, .string y.2] 93)) from by apply Array.ext'; rw [show (w.drewN 0).heap = w.heap from rfl, Array.toList_append, Array.toList_push, Array.toList_push, List.append_assoc]; rfl]
 rfl
instance instSortE : Inhabited (ByteArray × ByteArray) := ⟨(ByteArray.empty, ByteArray.empty)⟩
def encS (x : ByteArray × ByteArray) : List Value := [.string x.1, .string x.2]
theorem qe5 (x y : ByteArray × ByteArray) : ltOf (fun a b : ByteArray × ByteArray => qgn a.1 b.1) x y = ltE x y := by
 show decide (qgn x.1 y.1 < 0) = _
 unfold qgn ltE
 by_cases h : Op.bytesLess x.1.toList y.1.toList = true
 ·rw [if_pos h, h]
  rfl
 ·have h2 : Op.bytesLess x.1.toList y.1.toList = false := by simpa using h
  rw [if_neg h, h2]
  split <;> rfl
theorem swoE : SWO (ltOf fun a b : ByteArray × ByteArray => qgn a.1 b.1) := by
 rw [show (ltOf fun a b : ByteArray × ByteArray => qgn a.1 b.1) = ltE from funext fun x => funext fun y => qe5 x y]
 exact ⟨q65, fun _ _ _ => q8w, fun _ _ _ => qa2⟩
theorem flat_get (d : Array (ByteArray × ByteArray)) (j i : Nat) (hj : j < d.size) (hi : i < 2) : (flatK encS 2 d)[j * 2 + i]! = (encS d[j]!)[i]! := by
 rw [get_flatK encS 2 d (j * 2 + i) (by omega), show (j * 2 + i) / 2 = j from by omega, show (j * 2 + i) % 2 = i from by omega]
theorem heap_sorted {w : World} {g off : Nat} {cur : Array Value} {t : TypeId} {fz : Nat × Nat} (hh : w.heap[g]? = some (.cells cur t fz)) (d : Array (ByteArray × ByteArray)) (m : Nat) (os : Array Obj) :
  (sortWorldK encS 2 w g off m d os).heap[g]? = some (.cells (putCells id off (flatK encS 2 d) cur) t fz) := by
 have hlt : g < w.heap.size := (Array.getElem?_eq_some_iff.1 hh).1
 show ((w.heap.modify g (onCells (putCells id off (flatK encS 2 d)))) ++ os)[g]? = _
 rw [Array.getElem?_append_left (by rw [Array.size_modify]; exact hlt), Array.getElem?_modify, if_pos rfl, hh]
 rfl
theorem qa3 (w : World) (g off k : Nat) (hk : k ≠ g) (hlt : k < w.heap.size) (d : Array (ByteArray × ByteArray)) (m : Nat) (os : Array Obj) :
  (sortWorldK encS 2 w g off m d os).heap[k]? = w.heap[k]? := by
 show ((w.heap.modify g (onCells (putCells id off (flatK encS 2 d)))) ++ os)[k]? = _
 rw [Array.getElem?_append_left (by rw [Array.size_modify]; exact hlt), Array.getElem?_modify, if_neg (fun e => hk e.symm)]
theorem q6v (w : World) (g off : Nat) (d : Array (ByteArray × ByteArray)) (m : Nat) (os : Array Obj) : w.heap.size ≤ (sortWorldK encS 2 w g off m d os).heap.size := by
 show _ ≤ ((w.heap.modify g (onCells (putCells id off (flatK encS 2 d)))) ++ os).size
 rw [Array.size_append, Array.size_modify]
 omega
theorem qib (w : World) (blk off size : Nat) : CmpLays Tryz.prog 145 #[] encS 2 (fun a b => qgn a.1 b.1) blk off size w := fun m os dk _ x y => by
 refine (qex x y _).mono ?_
 rintro e w' ⟨rfl, q, os', rfl⟩
 exact ⟨rfl, q, os', rfl⟩
set_option maxHeartbeats 4000000 in
theorem qey (g off cap : Nat) (l : List (ByteArray × ByteArray)) (w : World) (cur : Array Value) (t : TypeId) (fz : Nat × Nat) (hh : w.heap[g]? = some (.cells cur t fz)) (hfz : ∀ o, o < cur.size → ¬(fz.1 ≤ o ∧ o < fz.2)) (hsz : off + l.length * 2 ≤ cur.size)
  (hc : ∀ j (hj : j < l.length), CAt w g (off + j * 2) [.string l[j].1, .string l[j].2]) (hd : (l.map (fun e => e.1)).Pairwise (fun a b => a ≠ b)) (hlen : l.length < 4611686018427387904) :
  Calls Tryz.prog 119 #[.slice (some ⟨g, off, none⟩) l.length cap] w fun e w' => e = .returned (.tuple #[]) ∧ ∃ d m os, d.size = l.length ∧ d.toList = q8z l ∧ w' = sortWorldK encS 2 w g off m d os := by
 have hgl : g < w.heap.size := (Array.getElem?_eq_some_iff.1 hh).1
 have eg : ∀ args w, (callFunc 145 args).run Tryz.prog w = .ok (.enter 145 args) w := enters_of Tryz.func145 (by kernel_rfl) rfl
 have hH : HoldsK encS 2 w g off l.toArray := by
  intro q hq
  have hq2 : q < l.length * 2 := by simpa using hq
  have hj : q / 2 < l.length := by omega
  have gf := get_flatK encS 2 l.toArray q (by simpa using hq2)
  have el : l.toArray[q / 2]! = l[q / 2] := getElem!_pos l.toArray (q / 2) (by simpa using hj)
  rw [el] at gf
  have hm : q % 2 = 0 ∨ q % 2 = 1 := by omega
  constructor
  ·show _ = some ((flatK encS 2 l.toArray)[q]!)
   rw [gf]
   rcases hm with hm | hm <;> rw [hm]
   ·have := hc (q / 2) hj 0 _ rfl
    rwa [show off + q / 2 * 2 + 0 = off + q by omega] at this
   ·have := hc (q / 2) hj 1 _ rfl
    rwa [show off + q / 2 * 2 + 1 = off + q by omega] at this
  ·have := hfz (off + q) (by omega)
   simp only [World.frozen?, hh]
   simp
   omega
 have hcall := AnyQ.slices_SortFunc Tryz.laysSort 2 Tryz.isAgg93 Tryz.sizeOf93 encS (fun _ => rfl) (fun x v hv => by simp [encS] at hv; rcases hv with rfl | rfl <;> rfl) (fun a b => qgn a.1 b.1) swoE 145 #[] g off cap l.toArray w eg (qib w g off _) hH hgl (by simpa using hlen)
 have hcall' : Calls Tryz.prog 144 #[.slice (some ⟨g, off, none⟩) l.length cap, .func (.func 145) #[] #[]] w fun e w' => e = .returned (.tuple #[]) ∧ ∃ d' n os, PermIn 0 l.toArray.size l.toArray d' ∧ SortedIn (ltOf fun a b : ByteArray × ByteArray => qgn a.1 b.1) 0 l.toArray.size d' ∧ w' = sortWorldK encS 2 w g off n d' os := by
  exact hcall
 clear hH hcall hc
 go_enter Tryz.func119, Tryz.ntmps119
 go_wp2_with (go_at_call 144; refine hcall'.mono ?_; rintro e w' ⟨rfl, d', m, os, hp, hs, rfl⟩)
 go_end0
 obtain ⟨hsz, _, hperm⟩ := hp
 have hsz' : d'.size = l.length := by simpa using hsz
 have hperm' : d'.toList.Perm l := by
  have e1 : d'.extract 0 l.toArray.size = d' := by rw [← hsz]; exact Array.extract_size
  rw [e1, Array.extract_size] at hperm
  simpa using hperm
 have hsort : d'.toList.Pairwise (fun a b => ltE b a = false) := by
  rw [List.pairwise_iff_getElem]
  intro i j hi hj hij
  have hi' : i < d'.size := by simpa using hi
  have hj' : j < d'.size := by simpa using hj
  have := hs i j (Nat.zero_le _) hij (by simpa [hsz'] using hj')
  rw [qe5, getElem!_pos d' j hj', getElem!_pos d' i hi'] at this
  simpa using this
 exact ⟨rfl, d', m, os, hsz', qd7 hd hperm' hsort, rfl⟩
abbrev q1w.ps : List Par := [⟨.row (.st (.pair .str .str)), .io (.own .ro)⟩]
abbrev q1w.rs : List Res := []
def q1w.F (_ : Nat) (l : List (ByteArray × ByteArray)) : Option (List (ByteArray × ByteArray)) := if (l.map (fun e => e.1)).Pairwise (fun a b => a ≠ b) ∧ l.length < 4611686018427387904 then some (q8z l) else none
def q1w.f (k : Nat) (l : List (ByteArray × ByteArray)) : Option (List (ByteArray × ByteArray)) := q1w.F k l
theorem q1w.can : Can Tryz.prog 119 := q5p (fn := Tryz.f119) (by kernel_rfl) (by kernel_rfl) (by kernel_rfl)
theorem qgo (w : World) : Calls Tryz.prog 119 #[.slice none 0 0] w fun e w' => e = .returned (.tuple #[]) ∧ w' = w := by
 have hcall : Calls Tryz.prog 144 #[.slice none 0 0, .func (.func 145) #[] #[]] w fun e w' => e = .returned (.tuple #[]) ∧ w' = w := AnyF.slices_SortFunc_none Tryz.laysSort none 0 _ w
 go_enter Tryz.func119, Tryz.ntmps119
 go_wp2_with (go_at_call 144; refine hcall.mono ?_; rintro e w' ⟨rfl, rfl⟩)
 go_end0
 exact ⟨rfl, rfl⟩
theorem q1w.snd (k : Nat) : Snd Tryz.prog Jp 119 ⟨q1w.ps, q1w.rs, q1w.F k⟩ := by
 intro l r hr ξ w vs tk wf hG hsz lt dj hargs
 simp only [q1w.F] at hr
 split at hr
 case isFalse => cases hr
 rename_i hd
 obtain ⟨hd, hlen⟩ := hd
 obtain rfl := Option.some.inj hr
 obtain ⟨cs, h0, h1⟩ := hargs 0 _ _ rfl rfl
 have h1 : Rel ξ w (.row (.st (.pair .str .str))) (.own .ro) l cs (tk 0) := h1
 rcases h1 with ⟨hl, hcs⟩ | ⟨a, cap, c, t, fz, Te, hcs, h2, h3, h4, h5, h6, h7, h8, h9, h10, h11⟩
 ·have hl : l = [] := hl
  subst hl
  subst hcs
  obtain rfl := qa1 hsz h0
  refine (qgo w).mono ?_
  rintro e w' ⟨rfl, rfl⟩
  refine ⟨_, ξ, Em, Em, rfl, Fr.refl _ _ _, wf, rfl, fun i p hi hp => ?_, Dj.em _, fun b hb => hb.elim (fun x => x.elim) fun x => x.elim⟩
  cases i with
  | zero =>
   simp only [List.getElem?_cons_zero, Option.some.injEq] at hi
   subst hi
   exact ⟨⟨.row (.st (.pair .str .str)), ([] : List (ByteArray × ByteArray))⟩, rfl, rfl, [.slice none 0 0], rfl, .inl ⟨rfl, rfl⟩⟩
  | succ i => simp at hi
 ·obtain ⟨g, off, sp⟩ := a
  simp only at h2 h3 h4 h7 h8 h9 h11
  subst h2
  subst hcs
  obtain rfl := qa1 hsz h0
  have hn : (Ty.st (.pair .str .str)).n = 2 := rfl
  have h7 : off + cap * 2 ≤ c.size := h7
  have h6 : l.length ≤ cap := h6
  have hgl : g < w.heap.size := (Array.getElem?_eq_some_iff.1 h4).1
  refine (qey g off cap l w c t fz h4 h5 (by omega) (fun j hj => ?_) hd hlen).mono ?_
  ·obtain ⟨c', k1, k2, k3⟩ := h11 j hj
   obtain rfl := qao k3
   exact k2
  ·rintro e w' ⟨rfl, d, m, os, e1, e2, rfl⟩
   have hh := heap_sorted (off := off) h4 d m os
   have hcell : ∀ o, (sortWorldK encS 2 w g off m d os).cell? ⟨g, o, none⟩ = (putCells id off (flatK encS 2 d) c)[o]? := fun o => cell_of hh o
   have hps : (putCells id off (flatK encS 2 d) c).size = c.size := by simp [putCells]
   have F : Fr (fun b => ∃ i, tk i b) ξ w ξ (sortWorldK encS 2 w g off m d os) := by
    refine ⟨rfl, rfl, rfl, q6v _ _ _ _ _ _, fun b hb hn => ⟨qa3 w g off b (fun e => hn ⟨0, e ▸ h3⟩) hb d m os, rfl⟩, fun b o v ho hv => ?_, fun _ _ => Nat.le_refl _⟩
    by_cases hb : b = g
    ·subst hb
     have h8 : ξ b ≤ off := h8
     rw [hcell, putCells, Array.getElem?_mapIdx]
     rw [cell_of h4] at hv
     rw [hv, Option.map_some, if_neg (by omega)]
    ·rw [q5j (qa3 w g off b hb (q6l hv) d m os)]
     exact hv
   refine ⟨_, ξ, Em, tk 0, rfl, F, fun b hb => wf b (Nat.le_trans (q6v _ _ _ _ _ _) hb), rfl, fun i p hi hp => ?_, Dj.em _, fun b hb => hb.elim (fun x => x.elim) fun x => ⟨.inl ⟨0, x⟩, Nat.lt_of_lt_of_le (lt 0 b x) (q6v _ _ _ _ _ _)⟩⟩
   cases i with
   | succ i => simp at hi
   | zero =>
    simp only [List.getElem?_cons_zero, Option.some.injEq] at hi
    subst hi
    have hls : (q8z l).length = l.length := by rw [← e2, Array.length_toList, e1]
    refine ⟨⟨.row (.st (.pair .str .str)), q8z l⟩, rfl, rfl, [.slice (some ⟨g, off, none⟩) l.length cap], rfl, .inr ⟨⟨g, off, none⟩, cap, _, t, fz, fun _ => Em, by rw [hls], rfl, h3, hh, ?_, ?_, ?_, h8, fun i => ⟨Sb.em _, fun x => x⟩, fun _ _ _ => Dj.em _, fun i hi => ?_⟩⟩
    ·rw [hps]; exact h5
    ·rw [hls]; exact h6
    ·rw [hps]; exact h7
    ·have hi' : i < d.size := by rw [e1, ← hls]; exact hi
     have hd' : d[i]! = (q8z l)[i] := by
      rw [getElem!_pos d i hi']
      have : d.toList[i]? = (q8z l)[i]? := by rw [e2]
      rw [List.getElem?_eq_getElem (by simpa using hi'), List.getElem?_eq_getElem hi] at this
      simpa using this
     refine ⟨[.string (q8z l)[i].1, .string (q8z l)[i].2], rfl, ?_, qi7 _ _ _ _⟩
     intro j v hv
     have hj : j < 2 := (List.getElem?_eq_some_iff.1 hv).1
     show (sortWorldK encS 2 w g off m d os).cell? ⟨g, off + i * 2 + j, none⟩ = some v
     have hlt : off + i * 2 + j < c.size := by omega
     rw [hcell, putCells, Array.getElem?_mapIdx, Array.getElem?_eq_getElem hlt, Option.map_some, if_pos ⟨by omega, by rw [size_flatK]; omega⟩]
     rw [show off + i * 2 + j - off = i * 2 + j by omega, flat_get d i j hi' hj, hd', ← hv]
     match j, hj with
     | 0, _ => rfl
     | 1, _ => rfl
end Go.Proofs.YtnjdoinlnbjedaaGreatDoor.Rf
end

section
/- What the program computes, told plainly: words, affixes, entries, books, deltas. Nothing of any program. -/
namespace Go.Proofs.YtnjdoinlnbjedaaGreatDoor.Rf
open Go Go.RowKit
def Sm (n : Nat) : Prop := n ≤ 4611686018427387904
def smA (a : Aff) : Prop := Sm a.1.size ∧ Sm a.2.2.1.size ∧ Sm a.2.2.2.1.size ∧ Sm a.2.2.2.2.size
def smE (e : En) : Prop := Sm e.1.size ∧ Sm e.2.size
def smB (b : Book) : Prop := (b.1.length ≤ 1099511627776 ∧ ∀ a ∈ b.1, smA a) ∧ b.2.length ≤ 1099511627776 ∧ ∀ e ∈ b.2, smE e
def smD (d : Delta) : Prop := (d.1.length ≤ 1099511627776 ∧ ∀ s ∈ d.1, Sm s.size) ∧ (d.2.1.length ≤ 1099511627776 ∧ ∀ e ∈ d.2.1, smE e) ∧ d.2.2.2.length ≤ 1099511627776 ∧ ∀ a ∈ d.2.2.2, smA a
def qjx (n : Nat) : Bool := decide (97 ≤ n) && decide (n ≤ 122)
def upB (n : Nat) : Bool := decide (65 ≤ n) && decide (n ≤ 90)
def qas (s : ByteArray) : Bool := q5f s.size fun i => qjx (bN s i)
def q2s (s : ByteArray) (m : Nat) : Bool := qas s && decide (s.size ≤ m)
def q4h (s : ByteArray) : Bool := decide (0 < s.size) && q2s s 12
def qat (s : ByteArray) : Bool := decide (s.size = 1) && upB (bN s 0)
def qj7 (s w : ByteArray) : Bool := decide (w.size ≤ s.size) && decide (s.extract 0 w.size = w)
def qj8 (s w : ByteArray) : Bool := decide (w.size ≤ s.size) && decide (s.extract (s.size - w.size) s.size = w)
def qfd (a : Aff) : Bool := qat a.1 && (q2s a.2.2.1 4 && (q2s a.2.2.2.1 4 && (q2s a.2.2.2.2 4 && if a.2.1 then qj7 a.2.2.2.2 a.2.2.1 else qj8 a.2.2.2.2 a.2.2.1)))
def ltS (s t : ByteArray) : Bool := Op.bytesLess s.toList t.toList
def qau (e : En) : Bool := (q5f e.2.size fun i => upB (bN e.2 i) && (decide (i = 0) || decide (bN e.2 (i - 1) < bN e.2 i))) && (q4h e.1 && decide (e.2.size ≤ 4))
def q58 (l : List Aff) : Bool := (q5f l.length fun i => qfd (l.getD i zA) && q5f i fun j => !decide (l.getD j zA = l.getD i zA)) && decide (l.length ≤ 8)
def q4p (l : List En) : Bool := (q5f l.length fun i => qau (l.getD i zE) && (decide (i = 0) || ltS (l.getD (i - 1) zE).1 (l.getD i zE).1)) && decide (l.length ≤ 24)
def q75 (l : List ByteArray) : Bool := (q5f l.length fun i => q4h (l.getD i bz) && (decide (i = 0) || ltS (l.getD (i - 1) bz) (l.getD i bz))) && decide (l.length ≤ 24)
def q3o (b : Book) : Bool := q58 b.1 && q4p b.2
def q9i (l : List En) (s : ByteArray) : Bool := l.any fun e => decide (e.1 = s)
def q3h (d : Delta) : Bool := q75 d.1 && (q4p d.2.1 && (q58 d.2.2.2 && ((d.2.2.1 || decide (d.2.2.2.length = 0)) && d.1.all fun s => !q9i d.2.1 s)))
end Go.Proofs.YtnjdoinlnbjedaaGreatDoor.Rf
end

section
/- spec.l1Dec, plain: a number in decimals (the old road's print). -/
namespace Go.Proofs.YtnjdoinlnbjedaaGreatDoor.M
open Go.RowKit Go.Proofs.YtnjdoinlnbjedaaGreatDoorW.PrintWords Go.Proofs.YtnjdoinlnbjedaaGreatDoor.Pu
set_option linter.unusedVariables false
set_option linter.unusedSimpArgs false
abbrev By := List UInt8
abbrev L (s : ByteArray) : By := s.data.toList
abbrev mk (l : By) : ByteArray := ⟨l.toArray⟩
theorem L_mk (l : By) : L (mk l) = l := rfl
theorem size_L (s : ByteArray) : s.size = (L s).length := by show s.data.size = s.data.toList.length; exact Array.length_toList.symm
theorem L_append (a b : ByteArray) : L (a ++ b) = L a ++ L b := by simp [L, ByteArray.data_append]
theorem L_inj {a b : ByteArray} : L a = L b ↔ a = b := by
 constructor
 ·intro h
  cases a; cases b
  simp [L] at h
  rw [h]
 ·intro h; rw [h]
theorem fig10 : ∀ v : Fin 10, strOfNums [(48 + (v.val : Int)) % 256] = mk [UInt8.ofNat (48 + v.val)] := by decide +kernel
theorem dec_size (u : Nat) (h : u ≤ 9223372036854775807) : (mk (Lib.decDigits u)).size ≤ 21 := by
 rw [size_L, L_mk, ← Lib.itoa_nonneg]
 exact Lib.itoa_length_le _ (by omega) (by omega)
theorem l1Dec_ev (u : Nat) : u ≤ 9223372036854775807 → Ev (fun k => spec_l1Dec.f k (u : Int)) (mk (Lib.decDigits u)) := by
 induction u using Nat.strongRecOn with
 | ind u ih =>
  intro h
  apply Ev.succ
  have c1 : ¬ (u : Int) < -9223372036854775807 := by omega
  have c2 : ¬ (u : Int) < 0 := by omega
  simp only [spec_l1Dec.f, c1, c2, if_false]
  by_cases c3 : u < 10
  ·have w : wrap64 (48 + (u : Int)) = 48 + (u : Int) := wid (by omega) (by omega)
   refine Ev.ifp (by omega) (Ev.cast (Ev.now _) ?_)
   rw [w, Lib.decDigits_one c3]
   exact fig10 ⟨u, c3⟩
  ·have e1 : Int.tdiv (u : Int) 10 = ((u / 10 : Nat) : Int) := by rw [Int.tdiv_eq_ediv_of_nonneg (by omega)]; omega
   have e2 : Int.tmod (u : Int) 10 = ((u % 10 : Nat) : Int) := by rw [Int.tmod_eq_emod_of_nonneg (by omega)]; omega
   have w1 : wrap64 (Int.tdiv (u : Int) 10) = ((u / 10 : Nat) : Int) := by rw [e1]; exact wid (by omega) (by omega)
   have w2 : wrap64 (48 + Int.tmod (u : Int) 10) = 48 + ((u % 10 : Nat) : Int) := by rw [e2]; exact wid (by omega) (by omega)
   refine Ev.ifn (by omega) ?_
   rw [w1, w2]
   refine Ev.bind (ih (u / 10) (by omega) (by omega)) ?_
   simp only [Option.bind_some]
   have hf := fig10 ⟨u % 10, by omega⟩
   rw [hf]
   have hs := dec_size (u / 10) (by omega)
   have h1 : (mk [UInt8.ofNat (48 + u % 10)]).size = 1 := rfl
   refine Ev.cast (Ev.ifp (by rw [h1]; omega) (Ev.now _)) ?_
   rw [← L_inj, L_append, L_mk, L_mk, L_mk]
   conv => rhs; rw [Lib.decDigits, dif_neg c3]
end Go.Proofs.YtnjdoinlnbjedaaGreatDoor.M
end
