import Derived.Test.YtaakfmpffhfaeaaGreatDoorProg
import Derived.Below
import Derived.Deep.Draws
import Derived.Deep.AppendLies
import Derived.Maps.AppendAt
import Derived.OwnWalk
import Derived.Laws.BytesArg
import Derived.Laws.MakeOwn
import Derived.Laws.OwnMore
import Derived.Deep.OwnRows
import Derived.Tactics
import Derived.Lib.ConvBytes
import Derived.Laws.Slices
import Derived.WalkKit
import Derived.KernelRfl
import Derived.RowKit3
import Derived.Deep.LoopGhost
import Derived.Deep.QuietTactic
import Derived.BigQuiet
import Derived.WideLaws
import Derived.Deep.DeepCutAuto
import Derived.Deep.CutBlock
import Derived.Deep.RegionHeld3
import Derived.Laws.Rows
import Derived.Lib.AppendStr
import Derived.ArgAppend
import Derived.Laws.IdiomCopy
import Derived.OrdersHeld
import Derived.Laws.BitsLemmas
import Derived.RowKit
import Derived.Test.YtaakfmpffhfaeaaGreatDoorBExactReleaseOkx1
import Derived.Lib.LaidTab
import Derived.Lib.AppendIntMem
import Derived.Sort.Grow
import Derived.Laws.Cover1
import Derived.Shelf.SlicesQ.IndexFunc
import Derived.Ground.SlgfProg
import Derived.Lib.SliceRun

section
-- Printed for this claim by a program (mprint.py) that uses the kit's print; Lean checks it.
namespace Go.Proofs.YtaakfmpffhfaeaaGreatDoor.M
open Go.RowKit Go.Proofs.YtaakfmpffhfaeaaGreatDoorW.PrintWords Go.Proofs.YtaakfmpffhfaeaaGreatDoorW.PrintLast Go.Proofs.YtaakfmpffhfaeaaGreatDoorW.PrintMore
attribute [local go_sem] max2_int min2_int max_two min_two max_three min_three max_four min_four   -- for this text's walks alone
set_option linter.unusedVariables false
set_option linter.unusedSimpArgs false
def errW : Option Int → Value
 | none => .nilIface
 | some c => .iface 0 (.int .i64 c)
theorem errW_none : errW none = .nilIface := rfl
theorem errW_some (c : Int) : errW (some c) = .iface 0 (.int .i64 c) := rfl
theorem info5 : (Tryz.prog.info? 5).map (fun i => (i.zero, i.size, i.bytes)) = some (some (.int .u8 0), 1, 1) := by kernel_rfl
theorem info9 : (Tryz.prog.info? 9).map (fun i => (i.zero, i.size, i.bytes)) = some (some (.string ⟨#[]⟩), 1, 16) := by kernel_rfl
theorem info100 : (Tryz.prog.info? 100).map (fun i => (i.zero, i.size, i.bytes)) = some (some (.agg #[(.string ⟨#[]⟩), (.string ⟨#[]⟩)]), 2, 32) := by kernel_rfl
theorem info103 : (Tryz.prog.info? 103).map (fun i => (i.zero, i.size, i.bytes)) = some (some (.agg #[(.string ⟨#[]⟩), (.bool false), (.string ⟨#[]⟩), (.string ⟨#[]⟩), (.string ⟨#[]⟩)]), 5, 72) := by kernel_rfl
theorem info124 : (Tryz.prog.info? 124).map (fun i => (i.zero, i.size, i.bytes)) = some (some (.int .u32 0), 1, 4) := by kernel_rfl
-- the values' own types
structure S106 where
 f0 : ByteArray
 f1 : Bool
 f2 : ByteArray
 f3 : ByteArray
 f4 : ByteArray
def z106 : S106 := ⟨(⟨#[]⟩ : ByteArray), false, (⟨#[]⟩ : ByteArray), (⟨#[]⟩ : ByteArray), (⟨#[]⟩ : ByteArray)⟩
def k106 : Kd S106 := Kd.iso (Kd.pair Kd.string (Kd.pair Kd.bool (Kd.pair Kd.string (Kd.pair Kd.string Kd.string)))) (fun x : S106 => (x.f0, x.f1, x.f2, x.f3, x.f4))
theorem k106_open {w : World} {x : S106} {cs : List Value} (h : k106.K w x cs) : cs = [.string x.f0, .bool x.f1, .string x.f2, .string x.f3, .string x.f4] := by
 obtain ⟨_, _, rfl, rfl, ⟨_, _, rfl, rfl, ⟨_, _, rfl, rfl, ⟨_, _, rfl, rfl, rfl⟩⟩⟩⟩ := h
 exact rfl
def rd_T106 (xs : List S106) (i : Int) : S106 := xs.getD i.toNat z106
theorem at_T106 {w : World} {A : Option Addr} {n : Nat} {xs : List S106} (h : Kd.C k106 w A n xs) (i : Int) (h0 : 0 ≤ i) (h1 : i < n) : ∃ ad , A = some ad ∧ w.cell? (ad.add (i.toNat * 5)) = some (.string (rd_T106 xs i).f0) ∧ w.cell? ⟨(ad.add (i.toNat * 5)).block, (ad.add (i.toNat * 5)).off + 1, none⟩ = some (.bool (rd_T106 xs i).f1) ∧ w.cell? ⟨(ad.add (i.toNat * 5)).block, (ad.add (i.toNat * 5)).off + 2, none⟩ = some (.string (rd_T106 xs i).f2) ∧ w.cell? ⟨(ad.add (i.toNat * 5)).block, (ad.add (i.toNat * 5)).off + 3, none⟩ = some (.string (rd_T106 xs i).f3) ∧ w.cell? ⟨(ad.add (i.toNat * 5)).block, (ad.add (i.toNat * 5)).off + 4, none⟩ = some (.string (rd_T106 xs i).f4) := by
 obtain ⟨ad, c, e, _, hK, hc0⟩ := Kd.C_get h z106 i h0 h1
 have hc : ∀ j u, c[j]? = some u → w.cell? (ad.add (i.toNat * 5 + j)) = some u := hc0
 obtain rfl := k106_open hK
 exact ⟨ad, e, hc 0 _ rfl, by rw [← add_field _ _ 1 (by omega)]; exact hc 1 _ rfl, by rw [← add_field _ _ 2 (by omega)]; exact hc 2 _ rfl, by rw [← add_field _ _ 3 (by omega)]; exact hc 3 _ rfl, by rw [← add_field _ _ 4 (by omega)]; exact hc 4 _ rfl⟩
structure S108 where
 f0 : ByteArray
 f1 : ByteArray
def z108 : S108 := ⟨(⟨#[]⟩ : ByteArray), (⟨#[]⟩ : ByteArray)⟩
def k108 : Kd S108 := Kd.iso (Kd.pair Kd.string Kd.string) (fun x : S108 => (x.f0, x.f1))
theorem k108_open {w : World} {x : S108} {cs : List Value} (h : k108.K w x cs) : cs = [.string x.f0, .string x.f1] := by
 obtain ⟨_, _, rfl, rfl, rfl⟩ := h
 exact rfl
def rd_T108 (xs : List S108) (i : Int) : S108 := xs.getD i.toNat z108
theorem at_T108 {w : World} {A : Option Addr} {n : Nat} {xs : List S108} (h : Kd.C k108 w A n xs) (i : Int) (h0 : 0 ≤ i) (h1 : i < n) : ∃ ad , A = some ad ∧ w.cell? (ad.add (i.toNat * 2)) = some (.string (rd_T108 xs i).f0) ∧ w.cell? ⟨(ad.add (i.toNat * 2)).block, (ad.add (i.toNat * 2)).off + 1, none⟩ = some (.string (rd_T108 xs i).f1) := by
 obtain ⟨ad, c, e, _, hK, hc0⟩ := Kd.C_get h z108 i h0 h1
 have hc : ∀ j u, c[j]? = some u → w.cell? (ad.add (i.toNat * 2 + j)) = some u := hc0
 obtain rfl := k108_open hK
 exact ⟨ad, e, hc 0 _ rfl, by rw [← add_field _ _ 1 (by omega)]; exact hc 1 _ rfl⟩
structure S103 where
 f0 : ByteArray
 f1 : Bool
 f2 : ByteArray
 f3 : ByteArray
 f4 : ByteArray
def z103 : S103 := ⟨(⟨#[]⟩ : ByteArray), false, (⟨#[]⟩ : ByteArray), (⟨#[]⟩ : ByteArray), (⟨#[]⟩ : ByteArray)⟩
def k103 : Kd S103 := Kd.iso (Kd.pair Kd.string (Kd.pair Kd.bool (Kd.pair Kd.string (Kd.pair Kd.string Kd.string)))) (fun x : S103 => (x.f0, x.f1, x.f2, x.f3, x.f4))
theorem k103_open {w : World} {x : S103} {cs : List Value} (h : k103.K w x cs) : cs = [.string x.f0, .bool x.f1, .string x.f2, .string x.f3, .string x.f4] := by
 obtain ⟨_, _, rfl, rfl, ⟨_, _, rfl, rfl, ⟨_, _, rfl, rfl, ⟨_, _, rfl, rfl, rfl⟩⟩⟩⟩ := h
 exact rfl
theorem k103_openM {w : World} {base : Nat} {ok : Nat → Prop} {x : S103} {cs : List Value} (h : k103.M w base ok x cs) : cs = [.string x.f0, .bool x.f1, .string x.f2, .string x.f3, .string x.f4] := by
 obtain ⟨_, _, rfl, rfl, ⟨_, _, rfl, rfl, ⟨_, _, rfl, rfl, ⟨_, _, rfl, rfl, rfl⟩⟩⟩⟩ := h
 exact rfl
theorem k103_mkM (w : World) (base : Nat) (ok : Nat → Prop) (x : S103)  : k103.M w base ok x [.string x.f0, .bool x.f1, .string x.f2, .string x.f3, .string x.f4] := ⟨[.string x.f0], [.bool x.f1, .string x.f2, .string x.f3, .string x.f4], rfl, rfl, ⟨[.bool x.f1], [.string x.f2, .string x.f3, .string x.f4], rfl, rfl, ⟨[.string x.f2], [.string x.f3, .string x.f4], rfl, rfl, ⟨[.string x.f3], [.string x.f4], rfl, rfl, rfl⟩⟩⟩⟩
def rd_T103 (xs : List S103) (i : Int) : S103 := xs.getD i.toNat z103
theorem at_T103 {w : World} {A : Option Addr} {n : Nat} {xs : List S103} (h : Kd.C k103 w A n xs) (i : Int) (h0 : 0 ≤ i) (h1 : i < n) : ∃ ad , A = some ad ∧ w.cell? (ad.add (i.toNat * 5)) = some (.string (rd_T103 xs i).f0) ∧ w.cell? ⟨(ad.add (i.toNat * 5)).block, (ad.add (i.toNat * 5)).off + 1, none⟩ = some (.bool (rd_T103 xs i).f1) ∧ w.cell? ⟨(ad.add (i.toNat * 5)).block, (ad.add (i.toNat * 5)).off + 2, none⟩ = some (.string (rd_T103 xs i).f2) ∧ w.cell? ⟨(ad.add (i.toNat * 5)).block, (ad.add (i.toNat * 5)).off + 3, none⟩ = some (.string (rd_T103 xs i).f3) ∧ w.cell? ⟨(ad.add (i.toNat * 5)).block, (ad.add (i.toNat * 5)).off + 4, none⟩ = some (.string (rd_T103 xs i).f4) := by
 obtain ⟨ad, c, e, _, hK, hc0⟩ := Kd.C_get h z103 i h0 h1
 have hc : ∀ j u, c[j]? = some u → w.cell? (ad.add (i.toNat * 5 + j)) = some u := hc0
 obtain rfl := k103_open hK
 exact ⟨ad, e, hc 0 _ rfl, by rw [← add_field _ _ 1 (by omega)]; exact hc 1 _ rfl, by rw [← add_field _ _ 2 (by omega)]; exact hc 2 _ rfl, by rw [← add_field _ _ 3 (by omega)]; exact hc 3 _ rfl, by rw [← add_field _ _ 4 (by omega)]; exact hc 4 _ rfl⟩
structure S100 where
 f0 : ByteArray
 f1 : ByteArray
def z100 : S100 := ⟨(⟨#[]⟩ : ByteArray), (⟨#[]⟩ : ByteArray)⟩
def k100 : Kd S100 := Kd.iso (Kd.pair Kd.string Kd.string) (fun x : S100 => (x.f0, x.f1))
theorem k100_open {w : World} {x : S100} {cs : List Value} (h : k100.K w x cs) : cs = [.string x.f0, .string x.f1] := by
 obtain ⟨_, _, rfl, rfl, rfl⟩ := h
 exact rfl
theorem k100_openM {w : World} {base : Nat} {ok : Nat → Prop} {x : S100} {cs : List Value} (h : k100.M w base ok x cs) : cs = [.string x.f0, .string x.f1] := by
 obtain ⟨_, _, rfl, rfl, rfl⟩ := h
 exact rfl
theorem k100_mkM (w : World) (base : Nat) (ok : Nat → Prop) (x : S100)  : k100.M w base ok x [.string x.f0, .string x.f1] := ⟨[.string x.f0], [.string x.f1], rfl, rfl, rfl⟩
def rd_T100 (xs : List S100) (i : Int) : S100 := xs.getD i.toNat z100
theorem at_T100 {w : World} {A : Option Addr} {n : Nat} {xs : List S100} (h : Kd.C k100 w A n xs) (i : Int) (h0 : 0 ≤ i) (h1 : i < n) : ∃ ad , A = some ad ∧ w.cell? (ad.add (i.toNat * 2)) = some (.string (rd_T100 xs i).f0) ∧ w.cell? ⟨(ad.add (i.toNat * 2)).block, (ad.add (i.toNat * 2)).off + 1, none⟩ = some (.string (rd_T100 xs i).f1) := by
 obtain ⟨ad, c, e, _, hK, hc0⟩ := Kd.C_get h z100 i h0 h1
 have hc : ∀ j u, c[j]? = some u → w.cell? (ad.add (i.toNat * 2 + j)) = some u := hc0
 obtain rfl := k100_open hK
 exact ⟨ad, e, hc 0 _ rfl, by rw [← add_field _ _ 1 (by omega)]; exact hc 1 _ rfl⟩
def rd_L8 (xs : List (List S100)) (i : Int) : (List S100) := xs.getD i.toNat ([] : List S100)
def rd_L9 (xs : List (List ByteArray)) (i : Int) : (List ByteArray) := xs.getD i.toNat ([] : List ByteArray)
structure GWm (w : World) : Prop where
 out : ∃ m : Int, w.cell? ⟨3, 0, none⟩ = some (.int .i64 m)
theorem GWm.below {w w1 : World} (h : GWm w) (hb : Below w.heap.size w w1) : GWm w1 := ⟨let ⟨m, hm⟩ := h.out; ⟨m, pw_cell_below hb hm⟩⟩
theorem GWm.drawn {w w1 : World} (h : GWm w) (hb : Drawn0 w w1) : GWm w1 := h.below hb.below
structure GWp (w : World) : Prop where
 out : Lib.TabIs Tryz.prog w "internal/strconv.uint64pow10" .u64 Lib.pow10Tab
theorem GWp.below {w w1 : World} (h : GWp w) (hb : Below w.heap.size w w1) : GWp w1 := ⟨Lib.tabBelow_of_tabIs h.out w1 hb⟩
theorem GWp.drawn {w w1 : World} (h : GWp w) (hb : Drawn0 w w1) : GWp w1 := h.below hb.below
theorem below_grow_drewN (w : World) (k : Nat) (os : Array Obj) : Below w.heap.size w (Go.Sort.grow (w.drewN k) os) := by
 have hh : (w.drewN k).heap = w.heap := rfl
 refine ⟨rfl, rfl, rfl, ?_, fun i hi => ?_⟩
 ·show w.heap.size ≤ ((w.drewN k).heap ++ os).size
  rw [hh, Array.size_append]
  omega
 ·show ((w.drewN k).heap ++ os)[i]? = w.heap[i]?
  rw [hh, Array.getElem?_append_left hi]
def shaTab : List Int := [1116352408, 1899447441, 3049323471, 3921009573, 961987163, 1508970993, 2453635748, 2870763221, 3624381080, 310598401, 607225278, 1426881987, 1925078388, 2162078206, 2614888103, 3248222580, 3835390401, 4022224774, 264347078, 604807628, 770255983, 1249150122, 1555081692, 1996064986, 2554220882, 2821834349, 2952996808, 3210313671, 3336571891, 3584528711, 113926993, 338241895, 666307205, 773529912, 1294757372, 1396182291, 1695183700, 1986661051, 2177026350, 2456956037, 2730485921, 2820302411, 3259730800, 3345764771, 3516065817, 3600352804, 4094571909, 275423344, 430227734, 506948616, 659060556, 883997877, 958139571, 1322822218, 1537002063, 1747873779, 1955562222, 2024104815, 2227730452, 2361852424, 2428436474, 2756734187, 3204031479, 3329325298]
structure GWs (w : World) : Prop where
 out : Lib.TabIs Tryz.prog w "loop.example/medlar/impl.shaStep" .u32 shaTab
theorem GWs.below {w w1 : World} (h : GWs w) (hb : Below w.heap.size w w1) : GWs w1 := ⟨Lib.tabBelow_of_tabIs h.out w1 hb⟩
theorem GWs.drawn {w w1 : World} (h : GWs w) (hb : Drawn0 w w1) : GWs w1 := h.below hb.below
theorem unary_not_u32 (n : Int) : Op.unary .xor (.int .u32 n) = Op.intBits .xor .u32 4294967295 n := rfl
theorem R_make0 {α : Type} {P : Program} {ops : Array Oper} {rest : List Oper} {o : Oper} {a : Act} {Q : Exit → Act → World → Prop} (d : Kd α) {w0 W : World} (base e : Nat) (hgd : o.guard = none) {N : Tmp} (hd : o.dst = some N) (t : TypeId) (x y : Operand) (ho : o.op = .makeSlice t x y) (c : Nat) (hx : a.eval x = .int .i64 0) (hy : a.eval y = .int .i64 (c : Int))
  (ht : P.underlying t = some (.slice e)) (z : Value) (bytes : Nat) (hinfo : (P.info? e).map (fun i => (i.zero, i.size, i.bytes)) = some (some z, d.sz, bytes)) (hl : bytes * c ≤ 281474976710656) (hc : c ≤ 9223372036854775807)
  (z0 : α) {ok : Nat → Prop} (hfresh : ok W.heap.size) (HB : Below base w0 W) (hbase : base ≤ W.heap.size)
  (h : ∀ v1 w1, d.R e w1 base ok v1 (List.replicate 0 z0) → Below base w0 w1 → W.grownBy w1 none → (∃ b, v1.ownBlock = some b ∧ W.heap.size ≤ b) → wpList P ops Q rest (a.put o.dst v1) w1) : wpList P ops Q (o :: rest) a W := by
 obtain ⟨i0, hi, hzz⟩ := Option.map_eq_some_iff.1 hinfo
 simp only [Prod.mk.injEq] at hzz
 obtain ⟨hz0, hz1, hz2⟩ := hzz
 obtain ⟨w1, hr, hown, hg⟩ := run_make_own (P := P) W base t e i0 z d.sz ht hi hz0 hz1 .i64 .i64 c (by rw [hz2]; exact hl) (by simpa [maxLen] using hc) hbase
 refine Kd.event_run hgd (v := .slice (some ⟨W.heap.size, 0, none⟩) 0 c) (w1 := w1) ?_ (h _ w1 ⟨fun k hk => ?_, [], hown, Reps.none _ _⟩ (HB.grown hg hbase (fun k hk => by cases hk)) hg ⟨W.heap.size, rfl, Nat.le_refl _⟩)
 ·unfold execOp
  simp only [ho, hx, hy, Sem.run_bind, hr, Result.andThen_ok, Sem.run_pure]
 ·simp [Value.ownBlock] at hk
  subst hk
  exact hfresh
theorem wrap_u8 (x : Int) : wrap64 (x % 256) = x % 256 := by
 unfold wrap64
 omega
end Go.Proofs.YtaakfmpffhfaeaaGreatDoor.M
end

section
/- Short words for printed texts: what the printed proofs say over and over, told once. Nothing of any program. -/
namespace Go.Proofs.YtaakfmpffhfaeaaGreatDoor.Sq
open Go.RowKit Go.Proofs.YtaakfmpffhfaeaaGreatDoorW.PrintWords Go.Proofs.YtaakfmpffhfaeaaGreatDoorW.PrintLast Go.Proofs.YtaakfmpffhfaeaaGreatDoorW.PrintMore
set_option linter.unusedVariables false
class Ext (n : Nat) (w1 w2 : World) : Prop where mk :: (out : n ≤ w1.heap.size → Below n w1 w2)
class Le_ (n g : Nat) : Prop where mk :: (out : n ≤ g)
instance (n : Nat) (w : World) : Ext n w w := ⟨fun _ => Below.refl n w⟩
instance (n : Nat) (w1 w2 : World) (o : Obj) [h : Ext n w1 w2] : Ext n w1 (w2.alloc o) := ⟨fun hn => (h.out hn).alloc (Nat.le_trans hn (h.out hn).size) o⟩
instance (n m : Nat) (w1 w2 : World) [h : Ext n w1 w2] : Ext n w1 (w2.drewN m) := ⟨fun hn => pw_below_drewN (h.out hn) m⟩
instance (n : Nat) (w1 w2 : World) [h : Ext n w1 w2] : Ext n w1 w2.drew := ⟨fun hn => below_drew1 (h.out hn)⟩
instance (n g j : Nat) (v : Value) (w1 w2 : World) [h : Ext n w1 w2] [hg : Le_ n g] : Ext n w1 (w2.setCell ⟨g, j, none⟩ v) := ⟨fun hn => (h.out hn).setCell hg.out _⟩
class Exn (w1 w2 : World) : Prop where mk :: (out : Below w1.heap.size w1 w2)
instance (w : World) : Exn w w := ⟨Below.refl _ w⟩
instance (w1 w2 : World) (o : Obj) [h : Exn w1 w2] : Exn w1 (w2.alloc o) := ⟨below_alloc h.out o⟩
instance (m : Nat) (w1 w2 : World) [h : Exn w1 w2] : Exn w1 (w2.drewN m) := ⟨pw_below_drewN h.out m⟩
instance (w1 w2 : World) [h : Exn w1 w2] : Exn w1 w2.drew := ⟨below_drew1 h.out⟩
theorem bx {w W W2 : World} (h : Below w.heap.size w W) [e : Ext w.heap.size W W2] : Below w.heap.size w W2 := h.trans (e.out h.size)
theorem bz {w W W2 : World} (h : Below w.heap.size w W) [e : Ext w.heap.size W W2] : w.heap.size ≤ W2.heap.size := (bx h).size
theorem gx {w W : World} {g : Nat} {o : Obj} (h : w.heap[g]? = some o) [e : Exn w W] : W.heap[g]? = some o := blk_below h e.out
section
variable {α : Type} {d : Kd α} {e : Nat} {w w1 : World} {base : Nat} {ok : Nat → Prop} {v : Value} {xs : List α}
theorem rx (h : d.R e w base ok v xs) [x : Exn w w1] : d.R e w1 base ok v xs := Kd.R_below h x.out
theorem cx {A : Option Addr} {n : Nat} (h : d.C w A n xs) [x : Exn w w1] : d.C w1 A n xs := Kd.C_below h x.out
end
theorem ge_of {w W W2 : World} {g : Nat} (hg : g = W2.heap.size) (h : Below w.heap.size w W) [e : Ext w.heap.size W W2] : w.heap.size ≤ g := by
 rw [hg]
 exact bz h
theorem cells_2 {w : World} {g : Nat} {t : TypeId} {v0 v1 : Value} (h : w.heap[g]? = some (.cells #[v0, v1] t (0, 0))) : w.cell? ⟨g, 0, none⟩ = some v0 ∧ w.cell? ⟨g, 1, none⟩ = some v1 ∧ w.frozen? ⟨g, 0, none⟩ = false ∧ w.frozen? ⟨g, 1, none⟩ = false := ⟨(blk_cell h 0).trans rfl, (blk_cell h 1).trans rfl, blk_frozen h 0, blk_frozen h 1⟩
theorem cells_4 {w : World} {g : Nat} {t : TypeId} {v0 v1 v2 v3 : Value} (h : w.heap[g]? = some (.cells #[v0, v1, v2, v3] t (0, 0))) : w.cell? ⟨g, 0, none⟩ = some v0 ∧ w.cell? ⟨g, 1, none⟩ = some v1 ∧ w.cell? ⟨g, 2, none⟩ = some v2 ∧ w.cell? ⟨g, 3, none⟩ = some v3 ∧ w.frozen? ⟨g, 0, none⟩ = false ∧ w.frozen? ⟨g, 1, none⟩ = false ∧ w.frozen? ⟨g, 2, none⟩ = false ∧ w.frozen? ⟨g, 3, none⟩ = false := ⟨(blk_cell h 0).trans rfl, (blk_cell h 1).trans rfl, (blk_cell h 2).trans rfl, (blk_cell h 3).trans rfl, blk_frozen h 0, blk_frozen h 1, blk_frozen h 2, blk_frozen h 3⟩
theorem cells_5 {w : World} {g : Nat} {t : TypeId} {v0 v1 v2 v3 v4 : Value} (h : w.heap[g]? = some (.cells #[v0, v1, v2, v3, v4] t (0, 0))) : w.cell? ⟨g, 0, none⟩ = some v0 ∧ w.cell? ⟨g, 1, none⟩ = some v1 ∧ w.cell? ⟨g, 2, none⟩ = some v2 ∧ w.cell? ⟨g, 3, none⟩ = some v3 ∧ w.cell? ⟨g, 4, none⟩ = some v4 ∧ w.frozen? ⟨g, 0, none⟩ = false ∧ w.frozen? ⟨g, 1, none⟩ = false ∧ w.frozen? ⟨g, 2, none⟩ = false ∧ w.frozen? ⟨g, 3, none⟩ = false ∧ w.frozen? ⟨g, 4, none⟩ = false := ⟨(blk_cell h 0).trans rfl, (blk_cell h 1).trans rfl, (blk_cell h 2).trans rfl, (blk_cell h 3).trans rfl, (blk_cell h 4).trans rfl, blk_frozen h 0, blk_frozen h 1, blk_frozen h 2, blk_frozen h 3, blk_frozen h 4⟩
theorem cells_7 {w : World} {g : Nat} {t : TypeId} {v0 v1 v2 v3 v4 v5 v6 : Value} (h : w.heap[g]? = some (.cells #[v0, v1, v2, v3, v4, v5, v6] t (0, 0))) : w.cell? ⟨g, 0, none⟩ = some v0 ∧ w.cell? ⟨g, 1, none⟩ = some v1 ∧ w.cell? ⟨g, 2, none⟩ = some v2 ∧ w.cell? ⟨g, 3, none⟩ = some v3 ∧ w.cell? ⟨g, 4, none⟩ = some v4 ∧ w.cell? ⟨g, 5, none⟩ = some v5 ∧ w.cell? ⟨g, 6, none⟩ = some v6 ∧ w.frozen? ⟨g, 0, none⟩ = false ∧ w.frozen? ⟨g, 1, none⟩ = false ∧ w.frozen? ⟨g, 2, none⟩ = false ∧ w.frozen? ⟨g, 3, none⟩ = false ∧ w.frozen? ⟨g, 4, none⟩ = false ∧ w.frozen? ⟨g, 5, none⟩ = false ∧ w.frozen? ⟨g, 6, none⟩ = false := ⟨(blk_cell h 0).trans rfl, (blk_cell h 1).trans rfl, (blk_cell h 2).trans rfl, (blk_cell h 3).trans rfl, (blk_cell h 4).trans rfl, (blk_cell h 5).trans rfl, (blk_cell h 6).trans rfl, blk_frozen h 0, blk_frozen h 1, blk_frozen h 2, blk_frozen h 3, blk_frozen h 4, blk_frozen h 5, blk_frozen h 6⟩
theorem px {w W : World} {a : Addr} {v : Value} (hb : Below w.heap.size w W) (h : w.cell? a = some v) : W.cell? a = some v := pw_cell_below hb h
theorem ite_y {α : Type} {c : Prop} [Decidable c] {a : Option α} {r : α} (h : (if c then a else none) = some r) : c := by
 by_cases hc : c
 ·exact hc
 ·rw [if_neg hc] at h
  cases h
theorem ite_t {α : Type} {c : Prop} [Decidable c] {a : Option α} {r : α} (h : (if c then a else none) = some r) : a = some r := by
 rw [if_pos (ite_y h)] at h
 exact h
class LeC {α : Type} (a b : Option α) : Prop where mk :: (out : LeO a b)
instance {α : Type} (a : Option α) : LeC a a := ⟨LeO.refl a⟩
instance {α : Type} (b : Option α) : LeC none b := ⟨LeO.none b⟩
instance {α : Type} (c : Prop) [Decidable c] (a b a' b' : Option α) [h : LeC a a'] [h' : LeC b b'] : LeC (if c then a else b) (if c then a' else b') := ⟨LeO.ite h.out h'.out⟩
instance {α β : Type} (a a' : Option α) (f f' : α → Option β) [h : LeC a a'] [h' : ∀ x, LeC (f x) (f' x)] : LeC (a.bind f) (a'.bind f') := ⟨LeO.bind h.out (fun x => (h' x).out)⟩
inductive St where
 | p (i n : Nat)
 | u (i n : Nat)
 | t (i n : Nat)
structure Ord (is : List St) (p : Prop) : Prop where mk :: (out : p)
theorem ord_ (is : List St) {p : Prop} (h : Ord is p) : p := h.out
theorem ord0 {p : Prop} (h : p) : Ord [] p := ⟨h⟩
section
variable {P : Program} {md : Region.Mode} {ops : Array Oper} {Q : Exit → Act → World → Prop} {S : World → Prop} {ds : List Nat} {T : Bool × List (List Nat × List Nat)} {B : List Nat}
theorem pu_ {i n : Nat} {is : List St} {oi : Oper} {v : Value} {fuel : Nat} {l : Array Bool} {a a' : Act} {w : World} (hT : Aside0 (rtab md ops = T)) (hi : ops[i]? = some oi) (hN : oi.dst = some n)
  (hc : anyT T l.toList (l.setIfInBounds i true).toList i = true) (hQ : ∀ c a w, Q (.panic c) (a.put oi.dst v) w → Q (.panic c) a w) (hw : Region.wanted oi (yielded ops a.tmps) = true)
  (hy : ∀ w, (execOp a.eval oi).run P w = .ok (.value v) w) (ha : a.put (some n) v = a') (h : Ord is (wpAnyLast P md ops Q S ds fuel (l.setIfInBounds i true) a' w)) : Ord (.p i n :: is) (wpAnyLast P md ops Q S ds (fuel + 1) l a w) :=
 ⟨pure_ (l.setIfInBounds i true) hi hN (any_of hT.out hc) hQ (Or.inl ⟨hw, hy⟩) ha h.out⟩
theorem un_ {i n : Nat} {is : List St} {oi : Oper} {fuel : Nat} {l : Array Bool} {a a' : Act} {w : World} (hT : Aside0 (rtab md ops = T)) (hi : ops[i]? = some oi) (hN : oi.dst = some n)
  (hc : anyT T l.toList (l.setIfInBounds i true).toList i = true) (hQ : ∀ c a w, Q (.panic c) (a.put oi.dst undef) w → Q (.panic c) a w) (hw : Region.wanted oi (yielded ops a.tmps) = false)
  (ha : a.put (some n) undef = a') (h : Ord is (wpAnyLast P md ops Q S ds fuel (l.setIfInBounds i true) a' w)) : Ord (.u i n :: is) (wpAnyLast P md ops Q S ds (fuel + 1) l a w) :=
 ⟨pure_ (l.setIfInBounds i true) hi hN (any_of hT.out hc) hQ (Or.inr ⟨hw, rfl⟩) ha h.out⟩
theorem ta_ {i n : Nat} {is : List St} {oi : Oper} {v : Value} {fuel : Nat} {l : Array Bool} {a a' : Act} {w : World} (hT : Aside0 (rtab md ops = T)) (hB : Aside0 (waitsOk T.2 B = true)) (hi : ops[i]? = some oi) (hN : oi.dst = some n)
  (hc : takeW T B ds l.toList (l.setIfInBounds i true).toList i = true) (hQ : ∀ c a w, Q (.panic c) (a.put oi.dst v) w → Q (.panic c) a w) (hw : Region.wanted oi (yielded ops a.tmps) = true)
  (hS : S w) (hy : ∀ w, S w → (execOp a.eval oi).run P w = .ok (.value v) w) (ha : a.put (some n) v = a') (h : Ord is (wpAnyLast P md ops Q S ds fuel (l.setIfInBounds i true) a' w)) : Ord (.t i n :: is) (wpAnyLast P md ops Q S ds (fuel + 1) l a w) :=
 ⟨take_ (l.setIfInBounds i true) hi hN (take_ofW hT.out hB.out hc) hQ (Or.inl ⟨hw, hy⟩) hS ha h.out⟩
theorem on_ {i : Nat} {N : Option Tmp} {oi : Oper} {fuel : Nat} {l : Array Bool} {a : Act} {w : World} (hT : Aside0 (rtab md ops = T)) (hi : ops[i]? = some oi) (hN : oi.dst = N)
  (hc : (readyT T.2 l.toList == [i] && l.toList.set i true == (l.setIfInBounds i true).toList) = true) (hd : i ∉ ds)
  (h : ∀ K : Act → World → Prop, Shut (∀ a' w', S w' → (S w' → wpAnyLast P md ops Q S ds fuel (l.setIfInBounds i true) a' w') → K a' w') → if Region.wanted oi (yielded ops a.tmps) = true then Oper.wp P oi a w K Q else K (a.put N undef) w) :
  wpAnyLast P md ops Q S ds (fuel + 1) l a w := one_ (l.setIfInBounds i true) hi hN (one_of hT.out hc) hd h
structure Go_ (P : Program) (f : FuncId) (fn : Func) : Prop where mk :: (func : P.funcs[f]? = some fn) (name : (fn.name == "runtime.NumGoroutine") = false) (body : fn.body.isSome = true)
theorem map_of {α β : Type} {as_ : Array α} {f : α → β} {bs : Array β} (h : as_.toList.map f = bs.toList) : as_.map f = bs := by
 apply Array.ext'
 rw [Array.toList_map]
 exact h
theorem goM {oi : Oper} {N : Option Tmp} {a : Act} {w : World} {K : Act → World → Prop} {f : FuncId} {fn : Func} {as_ : Array Operand} {ts : Array TypeId} (g : Go_ P f fn) (args : Array Value)
  (hw : Region.wanted oi (yielded ops a.tmps) = true) (hN : oi.dst = N) (hop : oi.op = .call { callee := .value (.func f), args := as_, argTypes := ts }) (hargs : as_.toList.map a.eval = args.toList)
  (h : Calls P f args w fun e w' => ∃ v, e = .returned v ∧ K (a.put N v) w') : if Region.wanted oi (yielded ops a.tmps) = true then Oper.wp P oi a w K Q else K (a.put N undef) w :=
 goes_ g.func g.name g.body args hw hN hop (map_of hargs) h
theorem goL {rest : List Oper} {oi : Oper} {a : Act} {w : World} (N : Option Tmp) (hd : oi.dst = N) (hg : oi.guard = none) {f : FuncId} {fn : Func} {as_ : Array Operand} {ts : Array TypeId} (g : Go_ P f fn) (args : Array Value)
  (hop : oi.op = .call { callee := .value (.func f), args := as_, argTypes := ts }) (hargs : as_.toList.map a.eval = args.toList)
  (h : Calls P f args w fun e w' => ∃ v, e = .returned v ∧ wpList P ops Q rest (a.put N v) w') : wpList P ops Q (oi :: rest) a w :=
 goesL_ N hd hg g.func g.name g.body args hop (map_of hargs) h
end
theorem kb {w W W2 : World} {g : Nat} {o : Obj} (h : Aside0 (w.heap[g]? = some o)) [e : Exn w W] (hb : Below W.heap.size W W2) : Aside0 (W2.heap[g]? = some o) := ⟨blk_below (gx h.out) hb⟩
theorem kB {w W1 W W2 : World} (h : Aside0 (Below w.heap.size w W1)) [e : Ext w.heap.size W1 W] (hb : Below W.heap.size W W2) : Aside0 (Below w.heap.size w W2) := ⟨below_step (bx h.out) hb⟩
theorem kR {α : Type} {d : Kd α} {e : Nat} {w W W2 : World} {base : Nat} {ok : Nat → Prop} {v : Value} {xs : List α} (h : Aside0 (d.R e w base ok v xs)) [x : Exn w W] (hb : Below W.heap.size W W2) : Aside0 (d.R e W2 base ok v xs) := ⟨Kd.R_below (rx h.out) hb⟩
class Ne_ (g p : Nat) : Prop where mk :: (out : g ≠ p)
class Cl (g : Nat) (t : TypeId) (cs : Array Value) (cs1 : outParam (Array Value)) (w1 w2 : World) : Prop where mk :: (out : w1.heap[g]? = some (.cells cs t (0, 0)) → w2.heap[g]? = some (.cells cs1 t (0, 0)))
instance (g : Nat) (t : TypeId) (cs : Array Value) (w : World) : Cl g t cs cs w w := ⟨id⟩
instance (g : Nat) (t : TypeId) (cs cs1 : Array Value) (w1 w2 : World) (o : Obj) [h : Cl g t cs cs1 w1 w2] : Cl g t cs cs1 w1 (w2.alloc o) := ⟨fun x => blk_alloc (h.out x) o⟩
instance (g m : Nat) (t : TypeId) (cs cs1 : Array Value) (w1 w2 : World) [h : Cl g t cs cs1 w1 w2] : Cl g t cs cs1 w1 (w2.drewN m) := ⟨fun x => blk_drewN (h.out x) m⟩
instance (g : Nat) (t : TypeId) (cs cs1 : Array Value) (w1 w2 : World) [h : Cl g t cs cs1 w1 w2] : Cl g t cs cs1 w1 w2.drew := ⟨fun x => blk_drew (h.out x)⟩
instance (g p j : Nat) (t : TypeId) (cs cs1 : Array Value) (u : Value) (w1 w2 : World) [h : Cl g t cs cs1 w1 w2] [n : Ne_ g p] : Cl g t cs cs1 w1 (w2.setCell ⟨p, j, none⟩ u) := ⟨fun x => blk_far (h.out x) n.out u⟩
instance (priority := high) (g j : Nat) (t : TypeId) (cs cs1 : Array Value) (u : Value) (w1 w2 : World) [h : Cl g t cs cs1 w1 w2] : Cl g t cs (cs1.setIfInBounds j u) w1 (w2.setCell ⟨g, j, none⟩ u) := ⟨fun x => blk_set (h.out x) j u⟩
theorem cl {g : Nat} {t : TypeId} {cs cs1 cs2 : Array Value} {w1 w2 : World} (x : w1.heap[g]? = some (.cells cs t (0, 0))) [h : Cl g t cs cs1 w1 w2] (e : cs1 = cs2) : w2.heap[g]? = some (.cells cs2 t (0, 0)) := e ▸ h.out x
class In_ (g : Nat) (gs : List Nat) : Prop where mk :: (out : g ∈ gs)
instance (g : Nat) (gs : List Nat) : In_ g (g :: gs) := ⟨List.mem_cons_self⟩
instance (g a : Nat) (gs : List Nat) [h : In_ g gs] : In_ g (a :: gs) := ⟨List.mem_cons_of_mem _ h.out⟩
class Far (gs : List Nat) (w1 w2 : World) : Prop where mk :: (out : w1.heap.size ≤ w2.heap.size ∧ ∀ k, k < w1.heap.size → k ∉ gs → w2.heap[k]? = w1.heap[k]?)
instance (gs : List Nat) (w : World) : Far gs w w := ⟨Nat.le_refl _, fun _ _ _ => rfl⟩
instance (gs : List Nat) (w1 w2 : World) (o : Obj) [h : Far gs w1 w2] : Far gs w1 (w2.alloc o) := ⟨by simp; exact Nat.le_succ_of_le h.out.1, fun k hk hn => (Below.heap_alloc w2 o k (Nat.lt_of_lt_of_le hk h.out.1)).trans (h.out.2 k hk hn)⟩
instance (gs : List Nat) (m : Nat) (w1 w2 : World) [h : Far gs w1 w2] : Far gs w1 (w2.drewN m) := ⟨h.out⟩
instance (gs : List Nat) (w1 w2 : World) [h : Far gs w1 w2] : Far gs w1 w2.drew := ⟨h.out⟩
instance (gs : List Nat) (p j : Nat) (u : Value) (w1 w2 : World) [h : Far gs w1 w2] [n : In_ p gs] : Far gs w1 (w2.setCell ⟨p, j, none⟩ u) := ⟨by simp [World.setCell]; exact h.out.1, fun k hk hn => (Below.heap_setCell w2 ⟨p, j, none⟩ u k (fun e => hn (e ▸ n.out))).trans (h.out.2 k hk hn)⟩
section
variable {α : Type} {d : Kd α} {e : Nat} {w w1 : World} {base : Nat} {ok : Nat → Prop} {v : Value} {xs : List α} {g g2 g3 t t2 t3 : Nat} {cs cs2 cs3 : Array Value}
theorem rf1 (h : d.R e w base ok v xs) (b : w.heap[g]? = some (.cells cs t (0, 0))) (ht : ∀ q, q ∈ e :: d.E → q ≠ t) [x : Far [g] w w1] : d.R e w1 base ok v xs :=
 Kd.R_mono (Kd.R_step (Kd.R_types h b ht) (fun k hk hl => x.out.2 k hl (by simp; exact hk.2))) (fun _ hk => hk.1)
theorem rf2 (h : d.R e w base ok v xs) (b : w.heap[g]? = some (.cells cs t (0, 0))) (b2 : w.heap[g2]? = some (.cells cs2 t2 (0, 0))) (ht : ∀ q, q ∈ e :: d.E → q ≠ t) (ht2 : ∀ q, q ∈ e :: d.E → q ≠ t2) [x : Far [g, g2] w w1] : d.R e w1 base ok v xs :=
 Kd.R_mono (Kd.R_step (Kd.R_types (Kd.R_types h b ht) b2 ht2) (fun k hk hl => x.out.2 k hl (by simp; exact ⟨hk.1.2, hk.2⟩))) (fun _ hk => hk.1.1)
end
class Im (p q : Prop) : Prop where mk :: (out : p → q)
instance (p : Prop) : Im p p := ⟨id⟩
class Io (p : Prop) (W : World) (q : outParam Prop) : Prop where mk :: (out : p → q)
class Kx (n g : Nat) (w1 w2 : World) : Prop where mk :: (out : ∀ w : World, w.heap.size = n → KeepBut w w1 g none → KeepBut w w2 g none)
instance (n g : Nat) (w : World) : Kx n g w w := ⟨fun _ _ h => h⟩
instance (n g : Nat) (w1 w2 : World) (o : Obj) [h : Kx n g w1 w2] : Kx n g w1 (w2.alloc o) := ⟨fun w e x => keep_alloc (h.out w e x) o⟩
instance (n g m : Nat) (w1 w2 : World) [h : Kx n g w1 w2] : Kx n g w1 (w2.drewN m) := ⟨fun w e x => keep_drewN (h.out w e x) m⟩
instance (n g : Nat) (w1 w2 : World) [h : Kx n g w1 w2] : Kx n g w1 w2.drew := ⟨fun w e x => keep_drew (h.out w e x)⟩
instance (n g p j : Nat) (u : Value) (w1 w2 : World) [h : Kx n g w1 w2] [l : Le_ n p] : Kx n g w1 (w2.setCell ⟨p, j, none⟩ u) := ⟨fun w e x => keep_far (h.out w e x) (show w.heap.size ≤ p from e ▸ l.out) u⟩
instance (priority := high) (n g j : Nat) (u : Value) (w1 w2 : World) [h : Kx n g w1 w2] : Kx n g w1 (w2.setCell ⟨g, j, none⟩ u) := ⟨fun w e x => KeepBut.set_ (h.out w e x) j u⟩
theorem qx {w W W2 : World} {g : Nat} (h : KeepBut w W g none) [k : Kx w.heap.size g W W2] : KeepBut w W2 g none := k.out w rfl h
theorem ks {w W W2 : World} {g : Nat} (h : KeepBut w W g none) [k : Kx w.heap.size g W W2] : w.heap.size ≤ W2.heap.size := (qx h).1
class Ty (w1 w2 : World) : Prop where mk :: (out : w1.heap.size ≤ w2.heap.size ∧ ∀ (g : Nat) (cs : Array Value) (t : TypeId), w1.heap[g]? = some (.cells cs t (0, 0)) → ∃ cs', w2.heap[g]? = some (.cells cs' t (0, 0)))
instance (w : World) : Ty w w := ⟨Nat.le_refl _, fun _ cs _ h => ⟨cs, h⟩⟩
instance (w1 w2 : World) (o : Obj) [h : Ty w1 w2] : Ty w1 (w2.alloc o) := ⟨by simp; exact Nat.le_succ_of_le h.out.1, fun g cs t x => let ⟨c, y⟩ := h.out.2 g cs t x; ⟨c, blk_alloc y o⟩⟩
instance (m : Nat) (w1 w2 : World) [h : Ty w1 w2] : Ty w1 (w2.drewN m) := ⟨h.out⟩
instance (w1 w2 : World) [h : Ty w1 w2] : Ty w1 w2.drew := ⟨h.out⟩
instance (p j : Nat) (u : Value) (w1 w2 : World) [h : Ty w1 w2] : Ty w1 (w2.setCell ⟨p, j, none⟩ u) := ⟨by simp [World.setCell]; exact h.out.1, fun g cs t x => by
 obtain ⟨c, y⟩ := h.out.2 g cs t x
 by_cases e : g = p
 ·subst e
  exact ⟨_, blk_set y j u⟩
 ·exact ⟨c, blk_far y e u⟩⟩
section
variable {α : Type} {d : Kd α} {e : Nat} {W0 W W1 : World} {base : Nat} {ok : Nat → Prop} {v : Value} {xs : List α} {g gb t : Nat}
theorem kp (b : ∃ cs, W0.heap[g]? = some (.cells cs t (0, 0))) [y : Ty W0 W] (ho : d.R e W base ok v xs) (ht : ∀ q, q ∈ e :: d.E → q ≠ t) (hk : KeepBut W W1 g none) : d.R e W1 base ok v xs := by
 obtain ⟨cs, b⟩ := b
 obtain ⟨c, z⟩ := y.out.2 g cs t b
 exact Kd.R_mono (Kd.R_keep (Kd.R_types ho z ht) hk (fun _ h => h.2)) (fun _ h => h.1)
theorem nl (hg : gb = W.heap.size) (b : g < W0.heap.size) [y : Ty W0 W] : g ≠ gb := by
 have h1 := y.out.1
 omega
theorem ng (hg : gb = W.heap.size) (b : g < W0.heap.size) [y : Ty W0 W] : gb ≠ g := by
 have h1 := y.out.1
 omega
end
theorem pz {w W W2 : World} {a : Addr} {v : Value} (hb : Below w.heap.size w W) [e : Ext w.heap.size W W2] (h : w.cell? a = some v) : W2.cell? a = some v := px (bx hb) h
theorem bind_y {α β : Type} {e y : α} {f : α → Option β} {r : β} (h : y = e) (H : (some e).bind f = some r) : f y = some r := by
 subst h
 exact H
end Go.Proofs.YtaakfmpffhfaeaaGreatDoor.Sq
end

section
-- Printed for this claim by a program (mprint.py) that uses the kit's print; Lean checks it.
namespace Go.Proofs.YtaakfmpffhfaeaaGreatDoor.M
open Go.RowKit Go.Proofs.YtaakfmpffhfaeaaGreatDoorW.PrintWords Go.Proofs.YtaakfmpffhfaeaaGreatDoorW.PrintLast Go.Proofs.YtaakfmpffhfaeaaGreatDoorW.PrintMore Go.Proofs.YtaakfmpffhfaeaaGreatDoor.Sq
set_option synthInstance.maxHeartbeats 2000000
set_option synthInstance.maxSize 4096
attribute [local go_sem] max2_int min2_int max_two min_two max_three min_three max_four min_four   -- for this text's walks alone
set_option linter.unusedVariables false
set_option linter.unusedSimpArgs false
theorem eqA103 (d : Nat) (w : World) (x0 y0 : ByteArray) (x1 y1 : Bool) (x2 y2 : ByteArray) (x3 y3 : ByteArray) (x4 y4 : ByteArray) :
  (Op.equalIn (d + 2) 103 (.agg #[.string x0, .bool x1, .string x2, .string x3, .string x4]) (.agg #[.string y0, .bool y1, .string y2, .string y3, .string y4])).run Tryz.prog w = .ok (x0.toList == y0.toList && (x1 == y1 && (x2.toList == y2.toList && (x3.toList == y3.toList && (x4.toList == y4.toList))))) w := by
 refine eqA_of Tryz.underlying103 (by kernel_rfl) ?_
 refine eqf_cons (by rfl) (by go_simp; rfl) (by go_simp; rfl) (by go_simp) ?_
 refine eqf_cons (by rfl) (by go_simp; rfl) (by go_simp; rfl) (by go_simp) ?_
 refine eqf_cons (by rfl) (by go_simp; rfl) (by go_simp; rfl) (by go_simp) ?_
 refine eqf_cons (by rfl) (by go_simp; rfl) (by go_simp; rfl) (by go_simp) ?_
 exact eqf_last (by rfl) (by go_simp; rfl) (by go_simp; rfl) (by go_simp)
end Go.Proofs.YtaakfmpffhfaeaaGreatDoor.M
end

section
namespace Go.Proofs.YtaakfmpffhfaeaaGreatDoor.M
open Go.RowKit Go.Proofs.YtaakfmpffhfaeaaGreatDoorW.PrintWords Go.Proofs.YtaakfmpffhfaeaaGreatDoorW.PrintLast Go.Proofs.YtaakfmpffhfaeaaGreatDoorW.PrintMore Go.Proofs.YtaakfmpffhfaeaaGreatDoor.Sq
set_option synthInstance.maxHeartbeats 2000000
set_option synthInstance.maxSize 4096
attribute [local go_sem] max2_int min2_int max_two min_two max_three min_three max_four min_four
set_option linter.unusedVariables false
set_option linter.unusedSimpArgs false
attribute [local go_sem high] eqA103
set_option maxHeartbeats 8000000
set_option maxRecDepth 100000
theorem gf167 : Go_ Tryz.prog 167 Tryz.f167 := ⟨Tryz.func167, by kernel_rfl, rfl⟩
def impl_Affix_167.l0 : Nat → List (S103) → Int → Int → ByteArray → Bool → ByteArray → ByteArray → ByteArray → Option (Int)
 | 0, _, _, _, _, _, _, _, _ => none
 | k + 1, x0, x7, x8, x102000, x102001, x102002, x102003, x102004 => if x8 < x7 then (if 0 ≤ x8 then (if x8 < (x0.length : Int) then (if (x102000.toList == (((rd_T103 x0 x8).f0).toList) && (x102001 == ((rd_T103 x0 x8).f1) && (x102002.toList == (((rd_T103 x0 x8).f2).toList) && (x102003.toList == (((rd_T103 x0 x8).f3).toList) && (x102004.toList == (((rd_T103 x0 x8).f4).toList)))))) = true then (some x8) else (impl_Affix_167.l0 k x0 x7 (wrap64 (x8 + 1)) x102000 x102001 x102002 x102003 x102004)) else (none)) else (none)) else (some (-1))
def impl_Affix_167.f (k : Nat) (l0 : List (S103)) (a1_0 : ByteArray) (a1_1 : Bool) (a1_2 : ByteArray) (a1_3 : ByteArray) (a1_4 : ByteArray) : Option (Int) := impl_Affix_167.l0 k l0 (l0.length : Int) 0 a1_0 a1_1 a1_2 a1_3 a1_4
theorem impl_Affix_167.mono_l : ∀ k, (∀ y0 y1 y2 y3 y4 y5 y6 y7, LeO (impl_Affix_167.l0 k y0 y1 y2 y3 y4 y5 y6 y7) (impl_Affix_167.l0 (k + 1) y0 y1 y2 y3 y4 y5 y6 y7))
 | 0 => fun _ _ _ _ _ _ _ _ r h => by simp [impl_Affix_167.l0] at h
 | k + 1 => by
  have ih0 := impl_Affix_167.mono_l k
  ·intro y0 y1 y2 y3 y4 y5 y6 y7
   unfold impl_Affix_167.l0
   have I0_ := fun a b c d e f g h => LeC.mk (ih0 a b c d e f g h)
   exact LeC.out
theorem impl_Affix_167.mono : ∀ a0 a1 a2 a3 a4 a5 k, LeO (impl_Affix_167.f k a0 a1 a2 a3 a4 a5) (impl_Affix_167.f (k + 1) a0 a1 a2 a3 a4 a5) := by
 intro a0 a1 a2 a3 a4 a5 k
 have ih0 := impl_Affix_167.mono_l k
 unfold impl_Affix_167.f
 have I0_ := fun a b c d e f g h => LeC.mk (ih0 a b c d e f g h)
 exact LeC.out
theorem impl_Affix_167.calls (k : Nat) (A0 : Option Addr) (c0 : Nat) (l0 : List (S103)) (a1_0 : ByteArray) (a1_1 : Bool) (a1_2 : ByteArray) (a1_3 : ByteArray) (a1_4 : ByteArray) (r : Int) (w : World) (hr0 : Kd.C k103 w A0 l0.length l0) (hc0 : l0.length ≤ c0) (h : impl_Affix_167.f k l0 a1_0 a1_1 a1_2 a1_3 a1_4 = some r) :
  Calls Tryz.prog 167 #[.slice A0 l0.length c0, .agg #[.string a1_0, .bool a1_1, .string a1_2, .string a1_3, .string a1_4]] w fun e w' => e = .returned (.int .i64 r) ∧ Below w.heap.size w w' := by
 have hu103 := Tryz.underlying103
 have HR0 := Aside0.mk hr0
 have HC0 := Aside0.mk hc0
 clear hr0 hc0
 have HB := Aside0.mk (Below.refl w.heap.size w)
 unfold impl_Affix_167.f at h
 have H := h
 clear h
 have H' := Aside0.mk H
 clear H
 go_enter Tryz.func167, Tryz.ntmps167
 go_wp2_with (first | ((with_reducible refine gate_dst (N := 3) rfl ?_); refine box_event rfl (N := 3) rfl (cs := #[.string a1_0, .bool a1_1, .string a1_2, .string a1_3, .string a1_4]) (t := 103) (by go_simp <;> rfl) ?_; intro gb101 hg w3 hbox hb; have BK101 := Aside0.mk (hbox); have GW101 := Le_.mk (ge_of hg HB.out); have GE101 := Le_.mk (ge_of hg HB.out); replace HB := kB HB hb; clear hb hbox hg))
 repeat (go_quiet (first | ((with_reducible refine gate_dst (N := 3) rfl ?_); refine box_event rfl (N := 3) rfl (cs := #[.string a1_0, .bool a1_1, .string a1_2, .string a1_3, .string a1_4]) (t := 103) (by go_simp <;> rfl) ?_; intro gb101 hg w3 hbox hb; have BK101 := Aside0.mk (hbox); have GW101 := Le_.mk (ge_of hg HB.out); have GE101 := Le_.mk (ge_of hg HB.out); replace HB := kB HB hb; clear hb hbox hg)); try go_wp2_with (first | ((with_reducible refine gate_dst (N := 3) rfl ?_); refine box_event rfl (N := 3) rfl (cs := #[.string a1_0, .bool a1_1, .string a1_2, .string a1_3, .string a1_4]) (t := 103) (by go_simp <;> rfl) ?_; intro gb101 hg w3 hbox hb; have BK101 := Aside0.mk (hbox); have GW101 := Le_.mk (ge_of hg HB.out); have GE101 := Le_.mk (ge_of hg HB.out); replace HB := kB HB hb; clear hb hbox hg)))
 go_loopg [8] k (fun kq v8 w' => ∃ (x8_1 : Int), v8 = .int .i64 x8_1 ∧ Aside0 (impl_Affix_167.l0 kq l0 (l0.length : Int) x8_1 a1_0 a1_1 a1_2 a1_3 a1_4 = some r) ∧ Aside0 (kq ≤ k) ∧ Aside0 (w'.heap[gb101]? = some (.cells #[.string a1_0, .bool a1_1, .string a1_2, .string a1_3, .string a1_4] 103 (0, 0))) ∧ Aside0 (Below w.heap.size w w'))
 case atStart => exact ⟨(0), (by first | rfl | (simp; done) | (simp [*]; done)), H', ⟨Nat.le_refl _⟩, ⟨gx (BK101.out)⟩, ⟨bx HB.out⟩⟩
 case round =>
  clear H'
  try clear c1
  try clear p2
  obtain ⟨x8_1, rfl, HA, HK1, BK101, HB⟩ := hrel
  cases gk with
  | zero => exact absurd HA.out (by simp [impl_Affix_167.l0])
  | succ k1 =>
   have H := HA.out
   clear HA
   simp only [impl_Affix_167.l0] at H
   by_cases c4 : x8_1 < (l0.length : Int)
   ·rw [if_pos c4] at H
    have c4b0 := decide_eq_true c4
    clear c4
    have c5 := ite_y H
    replace H := ite_t H
    have c5b0 := decide_eq_true c5
    clear c5
    have c6 := ite_y H
    replace H := ite_t H
    have c6b0 := decide_eq_true c6
    clear c6
    by_cases c7 : (a1_0.toList == (((rd_T103 l0 x8_1).f0).toList) && (a1_1 == ((rd_T103 l0 x8_1).f1) && (a1_2.toList == (((rd_T103 l0 x8_1).f2).toList) && (a1_3.toList == (((rd_T103 l0 x8_1).f3).toList) && (a1_4.toList == (((rd_T103 l0 x8_1).f4).toList)))))) = true
    ·rw [if_pos c7] at H
     have c7b0 : (a1_0.toList == (((rd_T103 l0 x8_1).f0).toList) && (a1_1 == ((rd_T103 l0 x8_1).f1) && (a1_2.toList == (((rd_T103 l0 x8_1).f2).toList) && (a1_3.toList == (((rd_T103 l0 x8_1).f3).toList) && (a1_4.toList == (((rd_T103 l0 x8_1).f4).toList)))))) = true := c7
     (try (have c7b1 : decide (a1_0.toList = (((rd_T103 l0 x8_1).f0).toList) && (a1_1 == ((rd_T103 l0 x8_1).f1) && (a1_2.toList == (((rd_T103 l0 x8_1).f2).toList) && (a1_3.toList == (((rd_T103 l0 x8_1).f3).toList) && (a1_4.toList == (((rd_T103 l0 x8_1).f4).toList)))))) = true := by simpa using c7))
     (try (have c7b2 : (a1_0.toList == (((rd_T103 l0 x8_1).f0).toList) && (a1_1 == ((rd_T103 l0 x8_1).f1) && (a1_2.toList == (((rd_T103 l0 x8_1).f2).toList) && (a1_3.toList == (((rd_T103 l0 x8_1).f3).toList) && (a1_4.toList == (((rd_T103 l0 x8_1).f4).toList)))))) = true := by simpa using c7))
     clear c7
     obtain rfl := Option.some.inj H
     have hz8 := cells_5 BK101.out
     have p102 := of_decide_eq_true c5b0
     have q102 := of_decide_eq_true c6b0
     obtain ⟨ad102, e102, hx102_0, hx102_1, hx102_2, hx102_3, hx102_4⟩ := at_T103 HR0.out x8_1 p102 q102
     cases e102
     replace hx102_0 := px HB.out hx102_0
     replace hx102_1 := px HB.out hx102_1
     replace hx102_2 := px HB.out hx102_2
     replace hx102_3 := px HB.out hx102_3
     replace hx102_4 := px HB.out hx102_4
     replace p102 := eq_true p102
     replace q102 := eq_true q102
     go_wp2
     repeat (go_quiet (fail); try go_wp2)
     go_ret
     exact ⟨by rfl, bx HB.out⟩
    ·rw [if_neg c7] at H
     have c7b0 : (a1_0.toList == (((rd_T103 l0 x8_1).f0).toList) && (a1_1 == ((rd_T103 l0 x8_1).f1) && (a1_2.toList == (((rd_T103 l0 x8_1).f2).toList) && (a1_3.toList == (((rd_T103 l0 x8_1).f3).toList) && (a1_4.toList == (((rd_T103 l0 x8_1).f4).toList)))))) = false := by simpa using c7
     (try (have c7b1 : decide (a1_0.toList = (((rd_T103 l0 x8_1).f0).toList) && (a1_1 == ((rd_T103 l0 x8_1).f1) && (a1_2.toList == (((rd_T103 l0 x8_1).f2).toList) && (a1_3.toList == (((rd_T103 l0 x8_1).f3).toList) && (a1_4.toList == (((rd_T103 l0 x8_1).f4).toList)))))) = false := by simpa using c7))
     (try (have c7b2 : (a1_0.toList == (((rd_T103 l0 x8_1).f0).toList) && (a1_1 == ((rd_T103 l0 x8_1).f1) && (a1_2.toList == (((rd_T103 l0 x8_1).f2).toList) && (a1_3.toList == (((rd_T103 l0 x8_1).f3).toList) && (a1_4.toList == (((rd_T103 l0 x8_1).f4).toList)))))) = false := by simpa using c7))
     (try (have c7b3 : ¬ (a1_0.toList = (((rd_T103 l0 x8_1).f0).toList) && (a1_1 == ((rd_T103 l0 x8_1).f1) && (a1_2.toList == (((rd_T103 l0 x8_1).f2).toList) && (a1_3.toList == (((rd_T103 l0 x8_1).f3).toList) && (a1_4.toList == (((rd_T103 l0 x8_1).f4).toList)))))) := by simpa using c7))
     clear c7
     have H' := Aside0.mk H
     clear H
     have hz9 := cells_5 BK101.out
     have p102 := of_decide_eq_true c5b0
     have q102 := of_decide_eq_true c6b0
     obtain ⟨ad102, e102, hx102_0, hx102_1, hx102_2, hx102_3, hx102_4⟩ := at_T103 HR0.out x8_1 p102 q102
     cases e102
     replace hx102_0 := px HB.out hx102_0
     replace hx102_1 := px HB.out hx102_1
     replace hx102_2 := px HB.out hx102_2
     replace hx102_3 := px HB.out hx102_3
     replace hx102_4 := px HB.out hx102_4
     replace p102 := eq_true p102
     replace q102 := eq_true q102
     go_wp2
     repeat (go_quiet (fail); try go_wp2)
     go_roundg k1
     case measure => have := HK1.out; omega
     case rel => exact ⟨(wrap64 (x8_1 + 1)), (by first | rfl | (simp; done) | (simp [*]; done)), H', ⟨by have := HK1.out; omega⟩, ⟨gx (BK101.out)⟩, ⟨bx HB.out⟩⟩
   ·rw [if_neg c4] at H
    have c4b0 := decide_eq_false c4
    clear c4
    obtain rfl := Option.some.inj H
    go_wp2
    repeat (go_quiet (fail); try go_wp2)
    go_ret
    exact ⟨by rfl, bx HB.out⟩
end Go.Proofs.YtaakfmpffhfaeaaGreatDoor.M
end

section
namespace Go.Proofs.YtaakfmpffhfaeaaGreatDoor.M
open Go.RowKit Go.Proofs.YtaakfmpffhfaeaaGreatDoorW.PrintWords Go.Proofs.YtaakfmpffhfaeaaGreatDoorW.PrintLast Go.Proofs.YtaakfmpffhfaeaaGreatDoorW.PrintMore Go.Proofs.YtaakfmpffhfaeaaGreatDoor.Sq
set_option synthInstance.maxHeartbeats 2000000
set_option synthInstance.maxSize 4096
attribute [local go_sem] max2_int min2_int max_two min_two max_three min_three max_four min_four
set_option linter.unusedVariables false
set_option linter.unusedSimpArgs false
set_option maxHeartbeats 8000000
set_option maxRecDepth 100000
theorem gf134 : Go_ Tryz.prog 134 Tryz.f134 := ⟨Tryz.func134, by kernel_rfl, rfl⟩
def impl_Affix_134.f (k : Nat) (l0 : List (S103)) (a1_0 : ByteArray) (a1_1 : Bool) (a1_2 : ByteArray) (a1_3 : ByteArray) (a1_4 : ByteArray) : Option (Bool) := (impl_Affix_167.f k l0 a1_0 a1_1 a1_2 a1_3 a1_4).bind fun t102 => (some (decide (t102 ≥ 0)))
theorem impl_Affix_134.mono : ∀ a0 a1 a2 a3 a4 a5 k, LeO (impl_Affix_134.f k a0 a1 a2 a3 a4 a5) (impl_Affix_134.f (k + 1) a0 a1 a2 a3 a4 a5) := by
 intro a0 a1 a2 a3 a4 a5 k
 unfold impl_Affix_134.f
 have I0_ := fun a b c d e f g => LeC.mk (impl_Affix_167.mono a b c d e f g)
 exact LeC.out
theorem impl_Affix_134.calls (k : Nat) (A0 : Option Addr) (c0 : Nat) (l0 : List (S103)) (a1_0 : ByteArray) (a1_1 : Bool) (a1_2 : ByteArray) (a1_3 : ByteArray) (a1_4 : ByteArray) (r : Bool) (w : World) (hr0 : Kd.C k103 w A0 l0.length l0) (hc0 : l0.length ≤ c0) (h : impl_Affix_134.f k l0 a1_0 a1_1 a1_2 a1_3 a1_4 = some r) :
  Calls Tryz.prog 134 #[.slice A0 l0.length c0, .agg #[.string a1_0, .bool a1_1, .string a1_2, .string a1_3, .string a1_4]] w fun e w' => e = .returned (.bool r) ∧ Below w.heap.size w w' := by
 have hu103 := Tryz.underlying103
 have HR0 := Aside0.mk hr0
 have HC0 := Aside0.mk hc0
 clear hr0 hc0
 have HB := Aside0.mk (Below.refl w.heap.size w)
 unfold impl_Affix_134.f at h
 have H := h
 clear h
 replace H := Option.bind_eq_some_iff.mp H
 obtain ⟨t102, A30, H⟩ := H
 have A3 := Aside0.mk A30
 clear A30
 obtain rfl := Option.some.inj H
 go_enter Tryz.func134, Tryz.ntmps134
 go_wp2_with (first | ((with_reducible refine gate_dst (N := 3) rfl ?_); refine box_event rfl (N := 3) rfl (cs := #[.string a1_0, .bool a1_1, .string a1_2, .string a1_3, .string a1_4]) (t := 103) (by go_simp <;> rfl) ?_; intro gb101 hg w4 hbox hb; have BK101 := Aside0.mk (hbox); have GW101 := Le_.mk (ge_of hg HB.out); have GE101 := Le_.mk (ge_of hg HB.out); replace HB := kB HB hb; clear hb hbox hg; have hz5 := cells_5 BK101.out) | ((with_reducible refine gate_callee (f := 167) rfl ?_); refine goL (some 7) rfl rfl gf167 #[.slice A0 l0.length c0, .agg #[.string a1_0, .bool a1_1, .string a1_2, .string a1_3, .string a1_4]] rfl rfl ?_; (with_reducible refine (impl_Affix_167.calls k _ _ l0 a1_0 a1_1 a1_2 a1_3 a1_4 t102 _ (cx (Kd.C_below HR0.out HB.out)) HC0.out A3.out).mono ?_); rintro e w6 ⟨rfl, hb⟩; refine ⟨_, rfl, ?_⟩; replace BK101 := kb BK101 hb; replace HB := kB HB hb; (try clear hb); (try clear hb2); (try clear hk); (try clear hi)))
 go_ret
 exact ⟨by rfl, bx HB.out⟩
theorem gf165 : Go_ Tryz.prog 165 Tryz.f165 := ⟨Tryz.func165, by kernel_rfl, rfl⟩
def impl_lower.l0 : Nat → ByteArray → Int → Int → Option (Bool)
 | 0, _, _, _ => none
 | k + 1, x0, x5, x6 => if x6 < x5 then (if 0 ≤ x6 then (if x6 < (x0.size : Int) then (if (bt x0 x6) < 97 then (some false) else (if (bt x0 x6) > 122 then (some false) else (impl_lower.l0 k x0 x5 (wrap64 (x6 + 1))))) else (none)) else (none)) else (some true)
def impl_lower.f (k : Nat) (a0 : ByteArray) : Option (Bool) := impl_lower.l0 k a0 (a0.size : Int) 0
theorem impl_lower.mono_l : ∀ k, (∀ y0 y1 y2, LeO (impl_lower.l0 k y0 y1 y2) (impl_lower.l0 (k + 1) y0 y1 y2))
 | 0 => fun _ _ _ r h => by simp [impl_lower.l0] at h
 | k + 1 => by
  have ih0 := impl_lower.mono_l k
  ·intro y0 y1 y2
   unfold impl_lower.l0
   have I0_ := fun a b c => LeC.mk (ih0 a b c)
   exact LeC.out
theorem impl_lower.mono : ∀ a0 k, LeO (impl_lower.f k a0) (impl_lower.f (k + 1) a0) := by
 intro a0 k
 have ih0 := impl_lower.mono_l k
 unfold impl_lower.f
 have I0_ := fun a b c => LeC.mk (ih0 a b c)
 exact LeC.out
theorem impl_lower.calls (k : Nat) (a0 : ByteArray) (r : Bool) (w : World) (h : impl_lower.f k a0 = some r) :
  Calls Tryz.prog 165 #[.string a0] w fun e w' => e = .returned (.bool r) ∧ Drawn0 w w' := by
 unfold impl_lower.f at h
 have H := h
 clear h
 have H' := Aside0.mk H
 clear H
 go_enter Tryz.func165, Tryz.ntmps165
 go_wp2
 go_loopg [6] k (fun kq v6 w' => ∃ (x6_1 : Int), v6 = .int .i64 x6_1 ∧ Aside0 (impl_lower.l0 kq a0 (a0.size : Int) x6_1 = some r) ∧ Aside0 (kq ≤ k) ∧ Drawn0 w w')
 case atStart => exact ⟨(0), (by first | rfl | (simp; done) | (simp [*]; done)), H', ⟨Nat.le_refl _⟩, by repeat (first | exact Drawn0.refl _ | apply Drawn0.step)⟩
 case round =>
  clear H'
  try clear c1
  obtain ⟨x6_1, rfl, HA, HK1, ⟨m1, rfl⟩⟩ := hrel
  cases gk with
  | zero => exact absurd HA.out (by simp [impl_lower.l0])
  | succ k1 =>
   have H := HA.out
   clear HA
   simp only [impl_lower.l0] at H
   by_cases c2 : x6_1 < (a0.size : Int)
   ·rw [if_pos c2] at H
    have c2b0 := decide_eq_true c2
    clear c2
    have c3 := ite_y H
    replace H := ite_t H
    have c3b0 := decide_eq_true c3
    clear c3
    have c4 := ite_y H
    replace H := ite_t H
    have c4b0 := decide_eq_true c4
    clear c4
    by_cases c6 : (bt a0 x6_1) < 97
    ·rw [if_pos c6] at H
     have c6b0 := decide_eq_true c6
     clear c6
     obtain rfl := Option.some.inj H
     have p5 := of_decide_eq_true c3b0
     have q5 := of_decide_eq_true c4b0
     have hx5 := bt_at a0 x6_1
     replace p5 := eq_true p5
     replace q5 := eq_true q5
     go_wp2
     go_ret
     exact ⟨by first | rfl | (simp; done) | (simp [*]; done), by repeat (first | exact Drawn0.refl _ | apply Drawn0.step)⟩
    ·rw [if_neg c6] at H
     have c6b0 := decide_eq_false c6
     clear c6
     by_cases c8 : (bt a0 x6_1) > 122
     ·rw [if_pos c8] at H
      have c8b0 : decide (122 < (bt a0 x6_1)) = true := decide_eq_true c8
      clear c8
      obtain rfl := Option.some.inj H
      have p5 := of_decide_eq_true c3b0
      have q5 := of_decide_eq_true c4b0
      have hx5 := bt_at a0 x6_1
      replace p5 := eq_true p5
      replace q5 := eq_true q5
      have p7 := of_decide_eq_true c3b0
      have q7 := of_decide_eq_true c4b0
      have hx7 := bt_at a0 x6_1
      replace p7 := eq_true p7
      replace q7 := eq_true q7
      go_wp2
      go_ret
      exact ⟨by first | rfl | (simp; done) | (simp [*]; done), by repeat (first | exact Drawn0.refl _ | apply Drawn0.step)⟩
     ·rw [if_neg c8] at H
      have c8b0 : decide (122 < (bt a0 x6_1)) = false := decide_eq_false c8
      clear c8
      have H' := Aside0.mk H
      clear H
      have p5 := of_decide_eq_true c3b0
      have q5 := of_decide_eq_true c4b0
      have hx5 := bt_at a0 x6_1
      replace p5 := eq_true p5
      replace q5 := eq_true q5
      have p7 := of_decide_eq_true c3b0
      have q7 := of_decide_eq_true c4b0
      have hx7 := bt_at a0 x6_1
      replace p7 := eq_true p7
      replace q7 := eq_true q7
      go_wp2
      go_roundg k1
      case measure => have := HK1.out; omega
      case rel => exact ⟨(wrap64 (x6_1 + 1)), (by first | rfl | (simp; done) | (simp [*]; done)), H', ⟨by have := HK1.out; omega⟩, by repeat (first | exact Drawn0.refl _ | apply Drawn0.step)⟩
   ·rw [if_neg c2] at H
    have c2b0 := decide_eq_false c2
    clear c2
    obtain rfl := Option.some.inj H
    go_wp2
    go_ret
    exact ⟨by first | rfl | (simp; done) | (simp [*]; done), by repeat (first | exact Drawn0.refl _ | apply Drawn0.step)⟩
theorem gf164 : Go_ Tryz.prog 164 Tryz.f164 := ⟨Tryz.func164, by kernel_rfl, rfl⟩
def impl_upper.f (a0 : Int) : Option (Bool) := if a0 ≥ 65 then (some (decide (a0 ≤ 90))) else (some false)
theorem impl_upper.calls (a0 : Int) (r : Bool) (w : World) (h : impl_upper.f a0 = some r) :
  Calls Tryz.prog 164 #[.int .u8 a0] w fun e w' => e = .returned (.bool r) ∧ Drawn0 w w' := by
 unfold impl_upper.f at h
 have H := h
 clear h
 by_cases c2 : a0 ≥ 65
 ·rw [if_pos c2] at H
  have c2b0 : decide (65 ≤ a0) = true := decide_eq_true c2
  clear c2
  obtain rfl := Option.some.inj H
  go_enter Tryz.func164, Tryz.ntmps164
  go_wp2
  go_ret
  exact ⟨by first | rfl | (simp; done) | (simp [*]; done), by repeat (first | exact Drawn0.refl _ | apply Drawn0.step)⟩
 ·rw [if_neg c2] at H
  have c2b0 : decide (65 ≤ a0) = false := decide_eq_false c2
  clear c2
  obtain rfl := Option.some.inj H
  go_enter Tryz.func164, Tryz.ntmps164
  go_wp2
  go_ret
  exact ⟨by first | rfl | (simp; done) | (simp [*]; done), by repeat (first | exact Drawn0.refl _ | apply Drawn0.step)⟩
theorem gf124 : Go_ Tryz.prog 124 Tryz.f124 := ⟨Tryz.func124, by kernel_rfl, rfl⟩
def stringslite_HasPrefix.f (a0 : ByteArray) (a1 : ByteArray) : Option (Bool) := if (a0.size : Int) ≥ (a1.size : Int) then (if 0 ≤ (a1.size : Int) then (if (a1.size : Int) ≤ (a0.size : Int) then (some ((a0.extract 0 ((a1.size : Int) : Int).toNat).toList == a1.toList)) else (none)) else (none)) else (some false)
theorem stringslite_HasPrefix.calls (a0 : ByteArray) (a1 : ByteArray) (r : Bool) (w : World) (h : stringslite_HasPrefix.f a0 a1 = some r) :
  Calls Tryz.prog 124 #[.string a0, .string a1] w fun e w' => e = .returned (.bool r) ∧ Drawn0 w w' := by
 unfold stringslite_HasPrefix.f at h
 have H := h
 clear h
 by_cases c3 : (a0.size : Int) ≥ (a1.size : Int)
 ·rw [if_pos c3] at H
  have c3b0 : decide ((a1.size : Int) ≤ (a0.size : Int)) = true := decide_eq_true c3
  have c3b1 : decide (a1.size ≤ a0.size) = true := decide_eq_true (Int.ofNat_le.mp c3)
  clear c3
  have c4 := ite_y H
  replace H := ite_t H
  have c4b0 := eq_true c4
  have c4b1 := decide_eq_true c4
  clear c4
  have c5 := ite_y H
  replace H := ite_t H
  have c5b0 := eq_true c5
  have c5b1 := decide_eq_true c5
  clear c5
  obtain rfl := Option.some.inj H
  go_enter Tryz.func124, Tryz.ntmps124
  go_wp2
  go_ret
  exact ⟨by first | rfl | (simp; done) | (simp [*]; done), by repeat (first | exact Drawn0.refl _ | apply Drawn0.step)⟩
 ·rw [if_neg c3] at H
  have c3b0 : decide ((a1.size : Int) ≤ (a0.size : Int)) = false := decide_eq_false c3
  have c3b1 : decide (a1.size ≤ a0.size) = false := decide_eq_false (fun h => c3 (Int.ofNat_le.mpr h))
  clear c3
  obtain rfl := Option.some.inj H
  go_enter Tryz.func124, Tryz.ntmps124
  go_wp2
  go_ret
  exact ⟨by first | rfl | (simp; done) | (simp [*]; done), by repeat (first | exact Drawn0.refl _ | apply Drawn0.step)⟩
theorem gf84 : Go_ Tryz.prog 84 Tryz.f84 := ⟨Tryz.func84, by kernel_rfl, rfl⟩
def strings_HasPrefix.f (a0 : ByteArray) (a1 : ByteArray) : Option (Bool) := (stringslite_HasPrefix.f a0 a1).bind fun t101 => (some t101)
theorem strings_HasPrefix.calls (a0 : ByteArray) (a1 : ByteArray) (r : Bool) (w : World) (h : strings_HasPrefix.f a0 a1 = some r) :
  Calls Tryz.prog 84 #[.string a0, .string a1] w fun e w' => e = .returned (.bool r) ∧ Drawn0 w w' := by
 unfold strings_HasPrefix.f at h
 have H := h
 clear h
 replace H := Option.bind_eq_some_iff.mp H
 obtain ⟨t101, A30, H⟩ := H
 have A3 := Aside0.mk A30
 clear A30
 obtain rfl := Option.some.inj H
 go_enter Tryz.func84, Tryz.ntmps84
 go_wp2_with (first | ((with_reducible refine gate_callee (f := 124) rfl ?_); refine goL (some 7) rfl rfl gf124 #[.string a0, .string a1] rfl rfl ?_; (with_reducible refine (stringslite_HasPrefix.calls a0 a1 t101 _ A3.out).mono ?_); rintro e w' ⟨rfl, ⟨nd, rfl⟩⟩; refine ⟨_, rfl, ?_⟩))
 go_ret
 exact ⟨by first | rfl | (simp; done) | (simp [*]; done), by repeat (first | exact Drawn0.refl _ | apply Drawn0.step)⟩
theorem gf185 : Go_ Tryz.prog 185 Tryz.f185 := ⟨Tryz.func185, by kernel_rfl, rfl⟩
def stringslite_HasSuffix.f (a0 : ByteArray) (a1 : ByteArray) : Option (Bool) := if (a0.size : Int) ≥ (a1.size : Int) then (if 0 ≤ (wrap64 ((a0.size : Int) - (a1.size : Int))) then (if (wrap64 ((a0.size : Int) - (a1.size : Int))) ≤ (a0.size : Int) then (some ((a0.extract ((wrap64 ((a0.size : Int) - (a1.size : Int))) : Int).toNat a0.size).toList == a1.toList)) else (none)) else (none)) else (some false)
theorem stringslite_HasSuffix.calls (a0 : ByteArray) (a1 : ByteArray) (r : Bool) (w : World) (h : stringslite_HasSuffix.f a0 a1 = some r) :
  Calls Tryz.prog 185 #[.string a0, .string a1] w fun e w' => e = .returned (.bool r) ∧ Drawn0 w w' := by
 unfold stringslite_HasSuffix.f at h
 have H := h
 clear h
 by_cases c3 : (a0.size : Int) ≥ (a1.size : Int)
 ·rw [if_pos c3] at H
  have c3b0 : decide ((a1.size : Int) ≤ (a0.size : Int)) = true := decide_eq_true c3
  have c3b1 : decide (a1.size ≤ a0.size) = true := decide_eq_true (Int.ofNat_le.mp c3)
  clear c3
  obtain ⟨ji4, hji4⟩ : ∃ j_ : Int, (wrap64 ((a0.size : Int) - (a1.size : Int))) = j_ := ⟨_, rfl⟩
  replace H : (if 0 ≤ (ji4) then (if (ji4) ≤ (a0.size : Int) then (some ((a0.extract ((ji4) : Int).toNat a0.size).toList == a1.toList)) else (none)) else (none)) = some r := by first | (rw [hji4] at H; exact H) | (simp only [hji4] at H ⊢; exact H)
  have hji4w : (IntKind.i64.wrap ((a0.size : Int) - (a1.size : Int))) = ji4 := (i64_w _).trans hji4
  have c5 := ite_y H
  replace H := ite_t H
  have c5b0 := eq_true c5
  have c5b1 := decide_eq_true c5
  clear c5
  have c6 := ite_y H
  replace H := ite_t H
  have c6b0 := eq_true c6
  have c6b1 := decide_eq_true c6
  clear c6
  obtain rfl := Option.some.inj H
  go_enter Tryz.func185, Tryz.ntmps185
  go_wp2
  go_ret
  exact ⟨by first | rfl | (simp; done) | (simp only [← hji4] <;> (first | rfl | simp)) | (simp [*]; done), by repeat (first | exact Drawn0.refl _ | apply Drawn0.step)⟩
 ·rw [if_neg c3] at H
  have c3b0 : decide ((a1.size : Int) ≤ (a0.size : Int)) = false := decide_eq_false c3
  have c3b1 : decide (a1.size ≤ a0.size) = false := decide_eq_false (fun h => c3 (Int.ofNat_le.mpr h))
  clear c3
  obtain rfl := Option.some.inj H
  go_enter Tryz.func185, Tryz.ntmps185
  go_wp2
  go_ret
  exact ⟨by first | rfl | (simp; done) | (simp [*]; done), by repeat (first | exact Drawn0.refl _ | apply Drawn0.step)⟩
theorem gf166 : Go_ Tryz.prog 166 Tryz.f166 := ⟨Tryz.func166, by kernel_rfl, rfl⟩
def strings_HasSuffix.f (a0 : ByteArray) (a1 : ByteArray) : Option (Bool) := (stringslite_HasSuffix.f a0 a1).bind fun t101 => (some t101)
theorem strings_HasSuffix.calls (a0 : ByteArray) (a1 : ByteArray) (r : Bool) (w : World) (h : strings_HasSuffix.f a0 a1 = some r) :
  Calls Tryz.prog 166 #[.string a0, .string a1] w fun e w' => e = .returned (.bool r) ∧ Drawn0 w w' := by
 unfold strings_HasSuffix.f at h
 have H := h
 clear h
 replace H := Option.bind_eq_some_iff.mp H
 obtain ⟨t101, A30, H⟩ := H
 have A3 := Aside0.mk A30
 clear A30
 obtain rfl := Option.some.inj H
 go_enter Tryz.func166, Tryz.ntmps166
 go_wp2_with (first | ((with_reducible refine gate_callee (f := 185) rfl ?_); refine goL (some 7) rfl rfl gf185 #[.string a0, .string a1] rfl rfl ?_; (with_reducible refine (stringslite_HasSuffix.calls a0 a1 t101 _ A3.out).mono ?_); rintro e w' ⟨rfl, ⟨nd, rfl⟩⟩; refine ⟨_, rfl, ?_⟩))
 go_ret
 exact ⟨by first | rfl | (simp; done) | (simp [*]; done), by repeat (first | exact Drawn0.refl _ | apply Drawn0.step)⟩
theorem gf133 : Go_ Tryz.prog 133 Tryz.f133 := ⟨Tryz.func133, by kernel_rfl, rfl⟩
mutual
def impl_AffixOk.j0 : Nat → Bool → ByteArray → Bool → ByteArray → ByteArray → ByteArray → Option (Bool)
 | 0, _, _, _, _, _, _ => none
 | k + 1, x15, x102000, x102001, x102002, x102003, x102004 => if x15 = true then (some false) else ((some (([x102002, x102003, x102004] : List ByteArray) : List ByteArray)).bind fun y103 => (impl_AffixOk.l0 k y103 (y103.length : Int) 0 x102000 x102001 x102002 x102003 x102004))
def impl_AffixOk.l0 : Nat → List ByteArray → Int → Int → ByteArray → Bool → ByteArray → ByteArray → ByteArray → Option (Bool)
 | 0, _, _, _, _, _, _, _, _ => none
 | k + 1, x22, x23, x24, x102000, x102001, x102002, x102003, x102004 => if x24 < x23 then (if 0 ≤ x24 then (if x24 < (x22.length : Int) then (if ((rdOf ByteArray.empty x22 x24).size : Int) > 4 then (some false) else ((impl_lower.f k (rdOf ByteArray.empty x22 x24)).bind fun t107 => (if t107 = true then (impl_AffixOk.l0 k x22 x23 (wrap64 (x24 + 1)) x102000 x102001 x102002 x102003 x102004) else (some false)))) else (none)) else (none)) else (if x102001 = true then ((strings_HasPrefix.f x102004 x102002).bind fun t108 => (some t108)) else ((strings_HasSuffix.f x102004 x102002).bind fun t109 => (some t109)))
end
def impl_AffixOk.f (k : Nat) (a0_0 : ByteArray) (a0_1 : Bool) (a0_2 : ByteArray) (a0_3 : ByteArray) (a0_4 : ByteArray) : Option (Bool) := if (a0_0.size : Int) = 1 then (if 0 < (a0_0.size : Int) then ((impl_upper.f (bt a0_0 0)).bind fun t102 => (impl_AffixOk.j0 k (!t102) a0_0 a0_1 a0_2 a0_3 a0_4)) else (none)) else (impl_AffixOk.j0 k true a0_0 a0_1 a0_2 a0_3 a0_4)
theorem impl_AffixOk.mono_l : ∀ k, (∀ y0 y1 y2 y3 y4 y5, LeO (impl_AffixOk.j0 k y0 y1 y2 y3 y4 y5) (impl_AffixOk.j0 (k + 1) y0 y1 y2 y3 y4 y5)) ∧ (∀ y0 y1 y2 y3 y4 y5 y6 y7, LeO (impl_AffixOk.l0 k y0 y1 y2 y3 y4 y5 y6 y7) (impl_AffixOk.l0 (k + 1) y0 y1 y2 y3 y4 y5 y6 y7))
 | 0 => ⟨fun _ _ _ _ _ _ r h => by simp [impl_AffixOk.j0] at h, fun _ _ _ _ _ _ _ _ r h => by simp [impl_AffixOk.l0] at h⟩
 | k + 1 => by
  obtain ⟨ih0, ih1⟩ := impl_AffixOk.mono_l k
  refine ⟨?_, ?_⟩
  ·intro y0 y1 y2 y3 y4 y5
   unfold impl_AffixOk.j0
   have I0_ := fun a b c d e f => LeC.mk (ih0 a b c d e f)
   have I1_ := fun a b c d e f g h => LeC.mk (ih1 a b c d e f g h)
   have I2_ := fun a b => LeC.mk (impl_lower.mono a b)
   exact LeC.out
  ·intro y0 y1 y2 y3 y4 y5 y6 y7
   unfold impl_AffixOk.l0
   have I0_ := fun a b c d e f => LeC.mk (ih0 a b c d e f)
   have I1_ := fun a b c d e f g h => LeC.mk (ih1 a b c d e f g h)
   have I2_ := fun a b => LeC.mk (impl_lower.mono a b)
   exact LeC.out
theorem impl_AffixOk.mono : ∀ a0 a1 a2 a3 a4 k, LeO (impl_AffixOk.f k a0 a1 a2 a3 a4) (impl_AffixOk.f (k + 1) a0 a1 a2 a3 a4) := by
 intro a0 a1 a2 a3 a4 k
 obtain ⟨ih0, ih1⟩ := impl_AffixOk.mono_l k
 unfold impl_AffixOk.f
 have I0_ := fun a b c d e f => LeC.mk (ih0 a b c d e f)
 have I1_ := fun a b c d e f g h => LeC.mk (ih1 a b c d e f g h)
 have I2_ := fun a b => LeC.mk (impl_lower.mono a b)
 exact LeC.out
theorem impl_AffixOk.calls (k : Nat) (a0_0 : ByteArray) (a0_1 : Bool) (a0_2 : ByteArray) (a0_3 : ByteArray) (a0_4 : ByteArray) (r : Bool) (w : World) (h : impl_AffixOk.f k a0_0 a0_1 a0_2 a0_3 a0_4 = some r) :
  Calls Tryz.prog 133 #[.agg #[.string a0_0, .bool a0_1, .string a0_2, .string a0_3, .string a0_4]] w fun e w' => e = .returned (.bool r) ∧ Below w.heap.size w w' := by
 have hu103 := Tryz.underlying103
 have HB := Aside0.mk (Below.refl w.heap.size w)
 unfold impl_AffixOk.f at h
 have H := h
 clear h
 have HC2 := Aside0.mk H
 clear H
 go_enter Tryz.func133, Tryz.ntmps133
 go_upto_region 1 with (first | ((with_reducible refine gate_dst (N := 1) rfl ?_); refine box_event rfl (N := 1) rfl (cs := #[.string a0_0, .bool a0_1, .string a0_2, .string a0_3, .string a0_4]) (t := 103) (by go_simp <;> rfl) ?_; intro gb101 hg w3 hbox hb; have BK101 := Aside0.mk (hbox); have GW101 := Le_.mk (ge_of hg HB.out); have GE101 := Le_.mk (ge_of hg HB.out); replace HB := kB HB hb; clear hb hbox hg))
 (try simp only [Act.put, List.setIfInBounds_toArray, List.set_cons_zero, List.set_cons_succ])
 go_cut [15] (fun v15 wc => ∃ (kq : Nat) (x15_1 : Bool), v15 = .bool x15_1 ∧ Aside0 (impl_AffixOk.j0 kq x15_1 a0_0 a0_1 a0_2 a0_3 a0_4 = some r) ∧ Aside0 (kq ≤ k) ∧ Aside0 (wc.heap[gb101]? = some (.cells #[.string a0_0, .bool a0_1, .string a0_2, .string a0_3, .string a0_4] 103 (0, 0))) ∧ Aside0 (Below w.heap.size w wc))
 case first =>
  have H := HC2.out
  clear HC2
  by_cases c4 : (a0_0.size : Int) = 1
  ·rw [if_pos c4] at H
   have c4b0 : ((a0_0.size : Int) == 1) = true := beq_iff_eq.mpr c4
   have c4b1 : ((a0_0.size : Int) != 1) = false := bne_eq_false_iff_eq.mpr c4
   clear c4
   (first | rw [c4b0] | (simp only [i64_w, i32_w]; rw [c4b0]) | skip)
   have c5 := ite_y H
   replace H := ite_t H
   have c5b0 := decide_eq_true c5
   have c5b1 : decide (0 < a0_0.size) = true := decide_eq_true (by omega)
   clear c5
   replace H := Option.bind_eq_some_iff.mp H
   obtain ⟨t102, A70, H⟩ := H
   have A7 := Aside0.mk A70
   clear A70
   have H' := Aside0.mk H
   clear H
   have hz8 := cells_5 BK101.out
   have p6 : 0 ≤ (0 : Int) := (by omega)
   have q6 : 0 < a0_0.size := (by have : (0 : Int) < (a0_0.size : Int) := of_decide_eq_true (by with_reducible assumption); omega)
   have hx6 : ∀ h : 0 < a0_0.size, ((a0_0[0]'h).toNat : Int) = bt a0_0 0 := bt_at a0_0 0
   clear p6
   have qi6 : (0 < (a0_0.size : Int)) = True := eq_true (of_decide_eq_true (by with_reducible assumption))
   replace q6 := eq_true q6
   go_wp2_with (first | (go_at_call 164; (with_reducible refine (impl_upper.calls (bt a0_0 0) t102 _ A7.out).mono ?_); rintro e w' ⟨rfl, ⟨nd, rfl⟩⟩))
   go_meet
   case rel => exact ⟨_, (!t102), (by first | rfl | (simp; done) | (simp [*]; done)), H', ⟨by first | omega | exact Nat.le_refl _⟩, ⟨gx (BK101.out)⟩, ⟨bx HB.out⟩⟩
  ·rw [if_neg c4] at H
   have c4b0 : ((a0_0.size : Int) == 1) = false := beq_eq_false_iff_ne.mpr c4
   have c4b1 : ((a0_0.size : Int) != 1) = true := bne_iff_ne.mpr c4
   (first | rw [c4b0] | (simp only [i64_w, i32_w]; rw [c4b0]) | skip)
   have H' := Aside0.mk H
   clear H
   have hz9 := cells_5 BK101.out
   go_wp2
   go_meet
   case rel => exact ⟨_, (true), (by first | rfl | (simp; done) | (simp [*]; done)), H', ⟨by first | omega | exact Nat.le_refl _⟩, ⟨gx (BK101.out)⟩, ⟨bx HB.out⟩⟩
 case rest =>
  clear HC2
  try clear c1
  try clear p2
  try clear c4
  try clear c4b0
  try clear c4b1
  try clear c5
  try clear c5b0
  try clear c5b1
  try clear p6
  try clear q6
  try clear hx6
  try clear qi6
  try clear hz8
  try clear hz9
  try clear p6
  try clear q6
  obtain ⟨kq, x15_1, rfl, HA, HJ1, BK101, HB⟩ := hcut
  cases kq with
  | zero => exact absurd HA.out (by simp [impl_AffixOk.j0])
  | succ kj1 =>
   have H := HA.out
   clear HA
   simp only [impl_AffixOk.j0] at H
   by_cases c10 : x15_1 = true
   ·subst c10
    rw [if_pos rfl] at H
    obtain rfl := Option.some.inj H
    go_wp2
    go_ret
    exact ⟨by rfl, bx HB.out⟩
   ·replace c10 := Bool.eq_false_iff.mpr c10
    subst c10
    rw [if_neg Bool.false_ne_true] at H
    obtain ⟨y103, hy103⟩ : ∃ y_ : List ByteArray, y_ = (([a0_2, a0_3, a0_4] : List ByteArray)) := ⟨_, rfl⟩
    first | replace H := bind_y hy103 H | rw [← hy103] at H
    have Ny103 := Aside0.mk hy103
    clear hy103
    have H' := Aside0.mk H
    clear H
    have hz11 := cells_5 BK101.out
    go_wp2_with (first | ((with_reducible refine gate_dst (N := 22) rfl ?_); refine Kd.R_lit Kd.string _ 9 ?hg (N := 22) ?hd (xs := ([a0_2, a0_3, a0_4] : List ByteArray)) (inner := [.string a0_2, .string a0_3, .string a0_4]) (ok := fun _ => True) (okp := fun _ => True) ?hr ?hp (fun _ hk => hk) trivial (Below.refl _ _) (Nat.le_refl _) (by simp) ?_; (case hd => rfl); (case hg => rfl); (case hr => first | (go_simp; done) | (go_simp; rfl)); (case hp => exact (Reps.one (show Kd.M Kd.string _ _ _ a0_2 [.string a0_2] from rfl) (Reps.one (show Kd.M Kd.string _ _ _ a0_3 [.string a0_3] from rfl) (Reps.one (show Kd.M Kd.string _ _ _ a0_4 [.string a0_4] from rfl) (Reps.none _ _))))); intro v104 w12 ho13 hb hg_ hnew_; clear hg_ hnew_; (first | rw [← Ny103.out] at ho13 | (simp only [Int.reduceToNat] at ho13; rw [← Ny103.out] at ho13)); have HO105 := Aside0.mk (Kd.R_lower ho13 (bz HB.out)); replace BK101 := kb BK101 hb; replace HB := kB HB hb; clear hb ho13; obtain ⟨Ao14, co14, eo14⟩ := Kd.R_slice HO105.out; subst eo14))
    go_loopg [24] kj1 (fun kq v24 w' => ∃ (x24_2 : Int), v24 = .int .i64 x24_2 ∧ Aside0 (impl_AffixOk.l0 kq y103 (y103.length : Int) x24_2 a0_0 a0_1 a0_2 a0_3 a0_4 = some r) ∧ Aside0 (kq ≤ kj1) ∧ Aside0 (Kd.R Kd.string 9 w' w.heap.size (fun _ => True) (.slice Ao14 y103.length co14) y103) ∧ Aside0 (w'.heap[gb101]? = some (.cells #[.string a0_0, .bool a0_1, .string a0_2, .string a0_3, .string a0_4] 103 (0, 0))) ∧ Aside0 (Below w.heap.size w w'))
    case atStart => exact ⟨(0), (by first | rfl | (simp; done) | (simp [*]; done)), H', ⟨Nat.le_refl _⟩, ⟨rx HO105.out⟩, ⟨gx (BK101.out)⟩, ⟨bx HB.out⟩⟩
    case round =>
     clear H'
     try clear c1
     try clear p2
     try clear c4
     try clear c4b0
     try clear c4b1
     try clear c5
     try clear c5b0
     try clear c5b1
     try clear p6
     try clear q6
     try clear hx6
     try clear qi6
     try clear c10
     try clear c13
     try clear hz11
     try clear hz8
     try clear hz9
     try clear p2
     try clear p6
     try clear q6
     obtain ⟨x24_2, rfl, HA, HK2, HO_22, BK101, HB⟩ := hrel
     cases gk with
     | zero => exact absurd HA.out (by simp [impl_AffixOk.l0])
     | succ k2 =>
      have H := HA.out
      clear HA
      simp only [impl_AffixOk.l0] at H
      by_cases c15 : x24_2 < (y103.length : Int)
      ·rw [if_pos c15] at H
       have c15b0 := decide_eq_true c15
       clear c15
       have c16 := ite_y H
       replace H := ite_t H
       have c16b0 := decide_eq_true c16
       clear c16
       have c17 := ite_y H
       replace H := ite_t H
       have c17b0 := decide_eq_true c17
       clear c17
       by_cases c18 : ((rdOf ByteArray.empty y103 x24_2).size : Int) > 4
       ·rw [if_pos c18] at H
        have c18b0 : decide (4 < ((rdOf ByteArray.empty y103 x24_2).size : Int)) = true := decide_eq_true c18
        have c18b1 : decide (4 < (rdOf ByteArray.empty y103 x24_2).size) = true := decide_eq_true (by omega)
        clear c18
        obtain rfl := Option.some.inj H
        have p106 := of_decide_eq_true c16b0
        have q106 := of_decide_eq_true c17b0
        obtain ⟨ad106, e106, hx106_0⟩ := Kd.at_string (Kd.R_reads' HO_22.out).2.2 x24_2 p106 q106
        cases e106
        replace p106 := eq_true p106
        replace q106 := eq_true q106
        go_wp2
        go_ret
        exact ⟨by rfl, bx HB.out⟩
       ·rw [if_neg c18] at H
        have c18b0 : decide (4 < ((rdOf ByteArray.empty y103 x24_2).size : Int)) = false := decide_eq_false c18
        have c18b1 : decide (4 < (rdOf ByteArray.empty y103 x24_2).size) = false := decide_eq_false (by omega)
        clear c18
        replace H := Option.bind_eq_some_iff.mp H
        obtain ⟨t107, A190, H⟩ := H
        have A19 := Aside0.mk A190
        clear A190
        by_cases c20 : t107 = true
        ·subst c20
         rw [if_pos rfl] at H
         have H' := Aside0.mk H
         clear H
         have p106 := of_decide_eq_true c16b0
         have q106 := of_decide_eq_true c17b0
         obtain ⟨ad106, e106, hx106_0⟩ := Kd.at_string (Kd.R_reads' HO_22.out).2.2 x24_2 p106 q106
         cases e106
         replace p106 := eq_true p106
         replace q106 := eq_true q106
         go_wp2_with (first | (go_at_call 165; (with_reducible refine (impl_lower.calls k2 (rdOf ByteArray.empty y103 x24_2) true _ A19.out).mono ?_); rintro e w' ⟨rfl, ⟨nd, rfl⟩⟩))
         go_roundg k2
         case measure => have := HJ1.out; have := HK2.out; omega
         case rel => exact ⟨(wrap64 (x24_2 + 1)), (by first | rfl | (simp; done) | (simp [*]; done)), H', ⟨by have := HJ1.out; have := HK2.out; omega⟩, ⟨rx HO_22.out⟩, ⟨gx (BK101.out)⟩, ⟨bx HB.out⟩⟩
        ·replace c20 := Bool.eq_false_iff.mpr c20
         subst c20
         rw [if_neg Bool.false_ne_true] at H
         obtain rfl := Option.some.inj H
         have p106 := of_decide_eq_true c16b0
         have q106 := of_decide_eq_true c17b0
         obtain ⟨ad106, e106, hx106_0⟩ := Kd.at_string (Kd.R_reads' HO_22.out).2.2 x24_2 p106 q106
         cases e106
         replace p106 := eq_true p106
         replace q106 := eq_true q106
         go_wp2_with (first | (go_at_call 165; (with_reducible refine (impl_lower.calls k2 (rdOf ByteArray.empty y103 x24_2) false _ A19.out).mono ?_); rintro e w' ⟨rfl, ⟨nd, rfl⟩⟩))
         go_ret
         exact ⟨by rfl, bx HB.out⟩
      ·rw [if_neg c15] at H
       have c15b0 := decide_eq_false c15
       clear c15
       by_cases c21 : a0_1 = true
       ·subst c21
        rw [if_pos rfl] at H
        replace H := Option.bind_eq_some_iff.mp H
        obtain ⟨t108, A220, H⟩ := H
        have A22 := Aside0.mk A220
        clear A220
        obtain rfl := Option.some.inj H
        have hz23 := cells_5 BK101.out
        go_wp2_with (first | ((with_reducible refine gate_callee (f := 84) rfl ?_); refine goL (some 43) rfl rfl gf84 #[.string a0_4, .string a0_2] rfl rfl ?_; (with_reducible refine (strings_HasPrefix.calls a0_4 a0_2 t108 _ A22.out).mono ?_); rintro e w' ⟨rfl, ⟨nd, rfl⟩⟩; refine ⟨_, rfl, ?_⟩))
        go_ret
        exact ⟨by rfl, bx HB.out⟩
       ·replace c21 := Bool.eq_false_iff.mpr c21
        subst c21
        rw [if_neg Bool.false_ne_true] at H
        replace H := Option.bind_eq_some_iff.mp H
        obtain ⟨t109, A240, H⟩ := H
        have A24 := Aside0.mk A240
        clear A240
        obtain rfl := Option.some.inj H
        have hz25 := cells_5 BK101.out
        go_wp2_with (first | ((with_reducible refine gate_callee (f := 166) rfl ?_); refine goL (some 48) rfl rfl gf166 #[.string a0_4, .string a0_2] rfl rfl ?_; (with_reducible refine (strings_HasSuffix.calls a0_4 a0_2 t109 _ A24.out).mono ?_); rintro e w' ⟨rfl, ⟨nd, rfl⟩⟩; refine ⟨_, rfl, ?_⟩))
        go_ret
        exact ⟨by rfl, bx HB.out⟩
theorem gf101 : Go_ Tryz.prog 101 Tryz.f101 := ⟨Tryz.func101, by kernel_rfl, rfl⟩
def impl_affixesOk.l0 : Nat → List (S103) → List (S103) → Int → Int → Option (Bool)
 | 0, _, _, _, _ => none
 | k + 1, x0, x5, x6, x7 => if x7 < x6 then (if 0 ≤ x7 then (if x7 < (x5.length : Int) then ((impl_AffixOk.f k ((rd_T103 x5 x7).f0) ((rd_T103 x5 x7).f1) ((rd_T103 x5 x7).f2) ((rd_T103 x5 x7).f3) ((rd_T103 x5 x7).f4)).bind fun t103 => (if t103 = true then (if x7 ≤ (x0.length : Int) then ((impl_Affix_134.f k (x0.take (x7 : Int).toNat) ((rd_T103 x5 x7).f0) ((rd_T103 x5 x7).f1) ((rd_T103 x5 x7).f2) ((rd_T103 x5 x7).f3) ((rd_T103 x5 x7).f4)).bind fun t108 => (if t108 = true then (some false) else (impl_affixesOk.l0 k x0 x5 x6 (wrap64 (x7 + 1))))) else (none)) else (some false))) else (none)) else (none)) else (some (decide ((x0.length : Int) ≤ 8)))
def impl_affixesOk.f (k : Nat) (l0 : List (S103)) : Option (Bool) := impl_affixesOk.l0 k l0 l0 (l0.length : Int) 0
theorem impl_affixesOk.mono_l : ∀ k, (∀ y0 y1 y2 y3, LeO (impl_affixesOk.l0 k y0 y1 y2 y3) (impl_affixesOk.l0 (k + 1) y0 y1 y2 y3))
 | 0 => fun _ _ _ _ r h => by simp [impl_affixesOk.l0] at h
 | k + 1 => by
  have ih0 := impl_affixesOk.mono_l k
  ·intro y0 y1 y2 y3
   unfold impl_affixesOk.l0
   have I0_ := fun a b c d => LeC.mk (ih0 a b c d)
   have I1_ := fun a b c d e f => LeC.mk (impl_AffixOk.mono a b c d e f)
   have I2_ := fun a b c d e f g => LeC.mk (impl_Affix_134.mono a b c d e f g)
   exact LeC.out
theorem impl_affixesOk.mono : ∀ a0 k, LeO (impl_affixesOk.f k a0) (impl_affixesOk.f (k + 1) a0) := by
 intro a0 k
 have ih0 := impl_affixesOk.mono_l k
 unfold impl_affixesOk.f
 have I0_ := fun a b c d => LeC.mk (ih0 a b c d)
 have I1_ := fun a b c d e f => LeC.mk (impl_AffixOk.mono a b c d e f)
 have I2_ := fun a b c d e f g => LeC.mk (impl_Affix_134.mono a b c d e f g)
 exact LeC.out
def impl_affixesOk.T4 : Bool × List (List Nat × List Nat) := (true, [([], []), ([0], [0]), ([1], [1]), ([2, 1], [2]), ([3], [3]), ([3], [3]), ([4, 5, 3], [3, 4, 5]), ([3], [3]), ([6, 7, 3, 3], [3, 6, 7]), ([3, 8], [3, 8])])
def impl_affixesOk.B4 : List Nat := [0, 1, 3, 7, 15, 15, 63, 15, 255, 511]
theorem impl_affixesOk.tab4 : rtab .any (opsOf Tryz.f101 4) = impl_affixesOk.T4 := by kernel_rfl
theorem impl_affixesOk.bits4 : waitsOk impl_affixesOk.T4.2 impl_affixesOk.B4 = true := by kernel_rfl
theorem impl_affixesOk.calls (k : Nat) (A0 : Option Addr) (c0 : Nat) (l0 : List (S103)) (r : Bool) (w : World) (hr0 : Kd.C k103 w A0 l0.length l0) (hc0 : l0.length ≤ c0) (h : impl_affixesOk.f k l0 = some r) :
  Calls Tryz.prog 101 #[.slice A0 l0.length c0] w fun e w' => e = .returned (.bool r) ∧ Below w.heap.size w w' := by
 have hu103 := Tryz.underlying103
 have HR0 := Aside0.mk hr0
 have HC0 := Aside0.mk hc0
 clear hr0 hc0
 have HB := Aside0.mk (Below.refl w.heap.size w)
 unfold impl_affixesOk.f at h
 have H := h
 clear h
 have H' := Aside0.mk H
 clear H
 go_enter Tryz.func101, Tryz.ntmps101
 go_wp2
 go_loopg [7] k (fun kq v7 w' => ∃ (x7_1 : Int), v7 = .int .i64 x7_1 ∧ Aside0 (impl_affixesOk.l0 kq l0 l0 (l0.length : Int) x7_1 = some r) ∧ Aside0 (kq ≤ k) ∧ Aside0 (Below w.heap.size w w'))
 case atStart => exact ⟨(0), (by first | rfl | (simp; done) | (simp [*]; done)), H', ⟨Nat.le_refl _⟩, ⟨bx HB.out⟩⟩
 case round =>
  clear H'
  try clear c1
  obtain ⟨x7_1, rfl, HA, HK1, HB⟩ := hrel
  cases gk with
  | zero => exact absurd HA.out (by simp [impl_affixesOk.l0])
  | succ k1 =>
   have H := HA.out
   clear HA
   simp only [impl_affixesOk.l0] at H
   by_cases c2 : x7_1 < (l0.length : Int)
   ·rw [if_pos c2] at H
    have c2b0 := decide_eq_true c2
    clear c2
    have c3 := ite_y H
    replace H := ite_t H
    have c3b0 := decide_eq_true c3
    clear c3
    have c4 := ite_y H
    replace H := ite_t H
    have c4b0 := decide_eq_true c4
    clear c4
    replace H := Option.bind_eq_some_iff.mp H
    obtain ⟨t103, A50, H⟩ := H
    have A5 := Aside0.mk A50
    clear A50
    by_cases c6 : t103 = true
    ·subst c6
     rw [if_pos rfl] at H
     have c7b0 := eq_true (of_decide_eq_true (by with_reducible assumption) : 0 ≤ x7_1)
     have c8 := ite_y H
     replace H := ite_t H
     have c8b0 := eq_true c8
     have c8b1 := decide_eq_true c8
     clear c8
     obtain ⟨y104, hy104⟩ : ∃ y_ : List (S103), y_ = (l0.take (x7_1 : Int).toNat) := ⟨_, rfl⟩
     first | replace H := bind_y hy104 H | rw [← hy104] at H
     have Ny104 := Aside0.mk hy104
     clear hy104
     replace H := Option.bind_eq_some_iff.mp H
     obtain ⟨t108, A90, H⟩ := H
     have A9 := Aside0.mk A90
     clear A90
     by_cases c10 : t108 = true
     ·subst c10
      rw [if_pos rfl] at H
      obtain rfl := Option.some.inj H
      have p101 := of_decide_eq_true c3b0
      have q101 := of_decide_eq_true c4b0
      obtain ⟨ad101, e101, hx101_0, hx101_1, hx101_2, hx101_3, hx101_4⟩ := at_T103 HR0.out x7_1 p101 q101
      cases e101
      replace hx101_0 := px HB.out hx101_0
      replace hx101_1 := px HB.out hx101_1
      replace hx101_2 := px HB.out hx101_2
      replace hx101_3 := px HB.out hx101_3
      replace hx101_4 := px HB.out hx101_4
      replace p101 := eq_true p101
      replace q101 := eq_true q101
      try go_wp2_with (first | ((with_reducible refine gate_dst (N := 4) rfl ?_); refine box_event rfl (N := 4) rfl (cs := #[.string (⟨#[]⟩ : ByteArray), .bool false, .string (⟨#[]⟩ : ByteArray), .string (⟨#[]⟩ : ByteArray), .string (⟨#[]⟩ : ByteArray)]) (t := 103) (by go_simp <;> rfl) ?_; intro gb102 hg w11 hbox hb; have BK102 := Aside0.mk (hbox); have GW102 := Le_.mk (ge_of hg HB.out); have GE102 := Le_.mk (ge_of hg HB.out); replace HB := kB HB hb; clear hb hbox hg; have hz12 := cells_5 BK102.out))
      have n0_ : Aside0 ((((((w11.setCell ⟨gb102, 0, none⟩ (.string ((rd_T103 l0 x7_1).f0))).setCell ⟨gb102, 1, none⟩ (.bool ((rd_T103 l0 x7_1).f1))).setCell ⟨gb102, 2, none⟩ (.string ((rd_T103 l0 x7_1).f2))).setCell ⟨gb102, 3, none⟩ (.string ((rd_T103 l0 x7_1).f3))).setCell ⟨gb102, 4, none⟩ (.string ((rd_T103 l0 x7_1).f4))).heap[gb102]? = some (.cells #[.string ((rd_T103 l0 x7_1).f0), .bool ((rd_T103 l0 x7_1).f1), .string ((rd_T103 l0 x7_1).f2), .string ((rd_T103 l0 x7_1).f3), .string ((rd_T103 l0 x7_1).f4)] 103 (0, 0))) := ⟨cl BK102.out rfl⟩
      have n1_ : Aside0 (Below w.heap.size w (((((w11.setCell ⟨gb102, 0, none⟩ (.string ((rd_T103 l0 x7_1).f0))).setCell ⟨gb102, 1, none⟩ (.bool ((rd_T103 l0 x7_1).f1))).setCell ⟨gb102, 2, none⟩ (.string ((rd_T103 l0 x7_1).f2))).setCell ⟨gb102, 3, none⟩ (.string ((rd_T103 l0 x7_1).f3))).setCell ⟨gb102, 4, none⟩ (.string ((rd_T103 l0 x7_1).f4)))) := ⟨bx HB.out⟩
      (try clear BK102)
      (try clear HB)
      generalize (((((w11.setCell ⟨gb102, 0, none⟩ (.string ((rd_T103 l0 x7_1).f0))).setCell ⟨gb102, 1, none⟩ (.bool ((rd_T103 l0 x7_1).f1))).setCell ⟨gb102, 2, none⟩ (.string ((rd_T103 l0 x7_1).f2))).setCell ⟨gb102, 3, none⟩ (.string ((rd_T103 l0 x7_1).f3))).setCell ⟨gb102, 4, none⟩ (.string ((rd_T103 l0 x7_1).f4))) = w13 at n0_ n1_ ⊢
      have BK102 := n0_
      have HB := n1_
      clear n0_ n1_
      replace BK102 := Aside0.mk (blk_drew BK102.out)
      replace HB := Aside0.mk (below_drew1 HB.out)
      refine start_ (n := 10) (S := fun w' => w'.cell? ⟨gb102, 0, none⟩ = some (.string ((rd_T103 l0 x7_1).f0)) ∧ w'.cell? ⟨gb102, 1, none⟩ = some (.bool ((rd_T103 l0 x7_1).f1)) ∧ w'.cell? ⟨gb102, 2, none⟩ = some (.string ((rd_T103 l0 x7_1).f2)) ∧ w'.cell? ⟨gb102, 3, none⟩ = some (.string ((rd_T103 l0 x7_1).f3)) ∧ w'.cell? ⟨gb102, 4, none⟩ = some (.string ((rd_T103 l0 x7_1).f4))) (ds := []) _ (by kernel_rfl) rfl rfl ⟨(blk_cell BK102.out 0).trans rfl, (blk_cell BK102.out 1).trans rfl, (blk_cell BK102.out 2).trans rfl, (blk_cell BK102.out 3).trans rfl, (blk_cell BK102.out 4).trans rfl⟩ (fun hHeld => ?_); refine with_tabW impl_affixesOk.tab4 impl_affixesOk.bits4 (fun HT_ HW_ => ?_)
      generalize w13.drew = w14 at BK102 HB hHeld ⊢
      refine ord_ [.t 0 12] ?_
      repeat (refine ta_ (v := ?_) (a' := ?_) HT_ HW_ rfl rfl (by kernel_rfl) (fun _ _ _ h => h) (by rfl) hHeld ?_ ?_ ?_; rotate_left 2; (rintro w' ⟨s0, s1, s2, s3, s4⟩; go_simp; with_reducible rfl); (simp only [Act.put, List.setIfInBounds_toArray, List.set_cons_zero, List.set_cons_succ, i64_w, i32_w]; rfl))
      refine ord0 ?_
      refine on_ (i := 1) (N := some 13) HT_ rfl rfl (by kernel_rfl) (by decide) (fun K hK => ?_)
      refine goM gf133 #[.agg #[.string ((rd_T103 l0 x7_1).f0), .bool ((rd_T103 l0 x7_1).f1), .string ((rd_T103 l0 x7_1).f2), .string ((rd_T103 l0 x7_1).f3), .string ((rd_T103 l0 x7_1).f4)]] (by rfl) rfl rfl rfl ?_
      with_reducible refine (impl_AffixOk.calls k1 ((rd_T103 l0 x7_1).f0) ((rd_T103 l0 x7_1).f1) ((rd_T103 l0 x7_1).f2) ((rd_T103 l0 x7_1).f3) ((rd_T103 l0 x7_1).f4) true _ A5.out).mono ?_
      rintro e w15 ⟨rfl, hb⟩
      refine ⟨_, rfl, ?_⟩
      replace BK102 := kb BK102 hb
      replace HB := kB HB hb
      (try clear hb)
      (try clear hb2)
      (try clear hk)
      (try clear hi)
      have q16 : (x7_1 : Int) ≤ ((l0.length : Int) : Int) := of_decide_eq_true (by with_reducible assumption)
      obtain ⟨i016, hi016, _, hsz16, _⟩ := info_parts info103
      have hroom16 : l0.length ≤ c0 := HC0.out
      have hC16 : Kd.C k103 _ (some ad101) l0.length l0 := HR0.out
      have hcut16 := cut_to (P := Tryz.prog) 32 103 .i64 Tryz.underlying32 hi016 (some ad101) l0.length c0 x7_1 (of_decide_eq_true (by with_reducible assumption)) q16 hroom16
      have hr16 := Kd.C_take (m := (x7_1 : Int).toNat) hC16 (by omega)
      have hy16 : y104.length = (x7_1 : Int).toNat := (by rw [Ny104.out, List.length_take]; omega)
      rw [← Ny104.out] at hr16
      rw [← hy16] at hcut16
      have HR107 := Aside0.mk hr16
      have HC107 := Aside0.mk (show y104.length ≤ c0 from by omega)
      clear hr16 hC16 hroom16 hi016 hsz16
      have KY16 := Aside0.mk hy16
      clear hy16
      replace q16 := eq_true q16
      refine hK.out _ _ ⟨(blk_cell BK102.out 0).trans rfl, (blk_cell BK102.out 1).trans rfl, (blk_cell BK102.out 2).trans rfl, (blk_cell BK102.out 3).trans rfl, (blk_cell BK102.out 4).trans rfl⟩ (fun hHeld => ?_)
      clear hK K
      refine norm_ (a' := ?_) ?_ ?_
      rotate_left
      ·show Act.put _ (some 13) _ = _
       simp only [Act.put, List.setIfInBounds_toArray, List.set_cons_zero, List.set_cons_succ, i64_w, i32_w]
       rfl
      refine ord_ [.p 2 14, .p 3 15, .p 4 16, .p 5 17, .p 6 18, .t 7 19] ?_
      repeat (first | (refine pu_ (v := ?_) (a' := ?_) HT_ rfl rfl (by kernel_rfl) (fun _ _ _ h => h) (by rfl) ?_ ?_ ?_; rotate_left 2; (intro w'; go_simp; with_reducible rfl); (simp only [Act.put, List.setIfInBounds_toArray, List.set_cons_zero, List.set_cons_succ, i64_w, i32_w]; rfl)) | (refine ta_ (v := ?_) (a' := ?_) HT_ HW_ rfl rfl (by kernel_rfl) (fun _ _ _ h => h) (by rfl) hHeld ?_ ?_ ?_; rotate_left 2; (rintro w' ⟨s0, s1, s2, s3, s4⟩; go_simp; with_reducible rfl); (simp only [Act.put, List.setIfInBounds_toArray, List.set_cons_zero, List.set_cons_succ, i64_w, i32_w]; rfl)))
      refine ord0 ?_
      refine on_ (i := 8) (N := some 20) HT_ rfl rfl (by kernel_rfl) (by decide) (fun K hK => ?_)
      refine goM gf134 #[.slice (some ad101) y104.length c0, .agg #[.string ((rd_T103 l0 x7_1).f0), .bool ((rd_T103 l0 x7_1).f1), .string ((rd_T103 l0 x7_1).f2), .string ((rd_T103 l0 x7_1).f3), .string ((rd_T103 l0 x7_1).f4)]] (by rfl) rfl rfl rfl ?_
      with_reducible refine (impl_Affix_134.calls k1 _ _ y104 ((rd_T103 l0 x7_1).f0) ((rd_T103 l0 x7_1).f1) ((rd_T103 l0 x7_1).f2) ((rd_T103 l0 x7_1).f3) ((rd_T103 l0 x7_1).f4) true _ ?side1 ?side2 A9.out).mono ?_
      (case side1 => exact cx (Kd.C_below HR107.out HB.out))
      (case side2 => exact HC107.out)
      rintro e w17 ⟨rfl, hb⟩
      refine ⟨_, rfl, ?_⟩
      replace BK102 := kb BK102 hb
      replace HB := kB HB hb
      (try clear hb)
      (try clear hb2)
      (try clear hk)
      (try clear hi)
      refine hK.out _ _ ⟨(blk_cell BK102.out 0).trans rfl, (blk_cell BK102.out 1).trans rfl, (blk_cell BK102.out 2).trans rfl, (blk_cell BK102.out 3).trans rfl, (blk_cell BK102.out 4).trans rfl⟩ (fun hHeld => ?_)
      clear hK K
      refine norm_ (a' := ?_) ?_ ?_
      rotate_left
      ·show Act.put _ (some 20) _ = _
       simp only [Act.put, List.setIfInBounds_toArray, List.set_cons_zero, List.set_cons_succ, i64_w, i32_w]
       rfl
      refine ord_ [.p 9 21] ?_
      repeat (refine pu_ (v := ?_) (a' := ?_) HT_ rfl rfl (by kernel_rfl) (fun _ _ _ h => h) (by rfl) ?_ ?_ ?_; rotate_left 2; (intro w'; go_simp; with_reducible rfl); (simp only [Act.put, List.setIfInBounds_toArray, List.set_cons_zero, List.set_cons_succ, i64_w, i32_w]; rfl))
      refine ord0 ?_
      refine done_ (done_of HT_.out (by kernel_rfl)) ?_
      try go_wp2
      go_ret
      exact ⟨by rfl, bx HB.out⟩
     ·replace c10 := Bool.eq_false_iff.mpr c10
      subst c10
      rw [if_neg Bool.false_ne_true] at H
      have H' := Aside0.mk H
      clear H
      have p101 := of_decide_eq_true c3b0
      have q101 := of_decide_eq_true c4b0
      obtain ⟨ad101, e101, hx101_0, hx101_1, hx101_2, hx101_3, hx101_4⟩ := at_T103 HR0.out x7_1 p101 q101
      cases e101
      replace hx101_0 := px HB.out hx101_0
      replace hx101_1 := px HB.out hx101_1
      replace hx101_2 := px HB.out hx101_2
      replace hx101_3 := px HB.out hx101_3
      replace hx101_4 := px HB.out hx101_4
      replace p101 := eq_true p101
      replace q101 := eq_true q101
      try go_wp2_with (first | ((with_reducible refine gate_dst (N := 4) rfl ?_); refine box_event rfl (N := 4) rfl (cs := #[.string (⟨#[]⟩ : ByteArray), .bool false, .string (⟨#[]⟩ : ByteArray), .string (⟨#[]⟩ : ByteArray), .string (⟨#[]⟩ : ByteArray)]) (t := 103) (by go_simp <;> rfl) ?_; intro gb102 hg w18 hbox hb; have BK102 := Aside0.mk (hbox); have GW102 := Le_.mk (ge_of hg HB.out); have GE102 := Le_.mk (ge_of hg HB.out); replace HB := kB HB hb; clear hb hbox hg; have hz19 := cells_5 BK102.out))
      have n0_ : Aside0 ((((((w18.setCell ⟨gb102, 0, none⟩ (.string ((rd_T103 l0 x7_1).f0))).setCell ⟨gb102, 1, none⟩ (.bool ((rd_T103 l0 x7_1).f1))).setCell ⟨gb102, 2, none⟩ (.string ((rd_T103 l0 x7_1).f2))).setCell ⟨gb102, 3, none⟩ (.string ((rd_T103 l0 x7_1).f3))).setCell ⟨gb102, 4, none⟩ (.string ((rd_T103 l0 x7_1).f4))).heap[gb102]? = some (.cells #[.string ((rd_T103 l0 x7_1).f0), .bool ((rd_T103 l0 x7_1).f1), .string ((rd_T103 l0 x7_1).f2), .string ((rd_T103 l0 x7_1).f3), .string ((rd_T103 l0 x7_1).f4)] 103 (0, 0))) := ⟨cl BK102.out rfl⟩
      have n1_ : Aside0 (Below w.heap.size w (((((w18.setCell ⟨gb102, 0, none⟩ (.string ((rd_T103 l0 x7_1).f0))).setCell ⟨gb102, 1, none⟩ (.bool ((rd_T103 l0 x7_1).f1))).setCell ⟨gb102, 2, none⟩ (.string ((rd_T103 l0 x7_1).f2))).setCell ⟨gb102, 3, none⟩ (.string ((rd_T103 l0 x7_1).f3))).setCell ⟨gb102, 4, none⟩ (.string ((rd_T103 l0 x7_1).f4)))) := ⟨bx HB.out⟩
      (try clear BK102)
      (try clear HB)
      generalize (((((w18.setCell ⟨gb102, 0, none⟩ (.string ((rd_T103 l0 x7_1).f0))).setCell ⟨gb102, 1, none⟩ (.bool ((rd_T103 l0 x7_1).f1))).setCell ⟨gb102, 2, none⟩ (.string ((rd_T103 l0 x7_1).f2))).setCell ⟨gb102, 3, none⟩ (.string ((rd_T103 l0 x7_1).f3))).setCell ⟨gb102, 4, none⟩ (.string ((rd_T103 l0 x7_1).f4))) = w20 at n0_ n1_ ⊢
      have BK102 := n0_
      have HB := n1_
      clear n0_ n1_
      replace BK102 := Aside0.mk (blk_drew BK102.out)
      replace HB := Aside0.mk (below_drew1 HB.out)
      refine start_ (n := 10) (S := fun w' => w'.cell? ⟨gb102, 0, none⟩ = some (.string ((rd_T103 l0 x7_1).f0)) ∧ w'.cell? ⟨gb102, 1, none⟩ = some (.bool ((rd_T103 l0 x7_1).f1)) ∧ w'.cell? ⟨gb102, 2, none⟩ = some (.string ((rd_T103 l0 x7_1).f2)) ∧ w'.cell? ⟨gb102, 3, none⟩ = some (.string ((rd_T103 l0 x7_1).f3)) ∧ w'.cell? ⟨gb102, 4, none⟩ = some (.string ((rd_T103 l0 x7_1).f4))) (ds := []) _ (by kernel_rfl) rfl rfl ⟨(blk_cell BK102.out 0).trans rfl, (blk_cell BK102.out 1).trans rfl, (blk_cell BK102.out 2).trans rfl, (blk_cell BK102.out 3).trans rfl, (blk_cell BK102.out 4).trans rfl⟩ (fun hHeld => ?_); refine with_tabW impl_affixesOk.tab4 impl_affixesOk.bits4 (fun HT_ HW_ => ?_)
      generalize w20.drew = w21 at BK102 HB hHeld ⊢
      refine ord_ [.t 0 12] ?_
      repeat (refine ta_ (v := ?_) (a' := ?_) HT_ HW_ rfl rfl (by kernel_rfl) (fun _ _ _ h => h) (by rfl) hHeld ?_ ?_ ?_; rotate_left 2; (rintro w' ⟨s0, s1, s2, s3, s4⟩; go_simp; with_reducible rfl); (simp only [Act.put, List.setIfInBounds_toArray, List.set_cons_zero, List.set_cons_succ, i64_w, i32_w]; rfl))
      refine ord0 ?_
      refine on_ (i := 1) (N := some 13) HT_ rfl rfl (by kernel_rfl) (by decide) (fun K hK => ?_)
      refine goM gf133 #[.agg #[.string ((rd_T103 l0 x7_1).f0), .bool ((rd_T103 l0 x7_1).f1), .string ((rd_T103 l0 x7_1).f2), .string ((rd_T103 l0 x7_1).f3), .string ((rd_T103 l0 x7_1).f4)]] (by rfl) rfl rfl rfl ?_
      with_reducible refine (impl_AffixOk.calls k1 ((rd_T103 l0 x7_1).f0) ((rd_T103 l0 x7_1).f1) ((rd_T103 l0 x7_1).f2) ((rd_T103 l0 x7_1).f3) ((rd_T103 l0 x7_1).f4) true _ A5.out).mono ?_
      rintro e w22 ⟨rfl, hb⟩
      refine ⟨_, rfl, ?_⟩
      replace BK102 := kb BK102 hb
      replace HB := kB HB hb
      (try clear hb)
      (try clear hb2)
      (try clear hk)
      (try clear hi)
      have q23 : (x7_1 : Int) ≤ ((l0.length : Int) : Int) := of_decide_eq_true (by with_reducible assumption)
      obtain ⟨i023, hi023, _, hsz23, _⟩ := info_parts info103
      have hroom23 : l0.length ≤ c0 := HC0.out
      have hC23 : Kd.C k103 _ (some ad101) l0.length l0 := HR0.out
      have hcut23 := cut_to (P := Tryz.prog) 32 103 .i64 Tryz.underlying32 hi023 (some ad101) l0.length c0 x7_1 (of_decide_eq_true (by with_reducible assumption)) q23 hroom23
      have hr23 := Kd.C_take (m := (x7_1 : Int).toNat) hC23 (by omega)
      have hy23 : y104.length = (x7_1 : Int).toNat := (by rw [Ny104.out, List.length_take]; omega)
      rw [← Ny104.out] at hr23
      rw [← hy23] at hcut23
      have HR107 := Aside0.mk hr23
      have HC107 := Aside0.mk (show y104.length ≤ c0 from by omega)
      clear hr23 hC23 hroom23 hi023 hsz23
      have KY23 := Aside0.mk hy23
      clear hy23
      replace q23 := eq_true q23
      refine hK.out _ _ ⟨(blk_cell BK102.out 0).trans rfl, (blk_cell BK102.out 1).trans rfl, (blk_cell BK102.out 2).trans rfl, (blk_cell BK102.out 3).trans rfl, (blk_cell BK102.out 4).trans rfl⟩ (fun hHeld => ?_)
      clear hK K
      refine norm_ (a' := ?_) ?_ ?_
      rotate_left
      ·show Act.put _ (some 13) _ = _
       simp only [Act.put, List.setIfInBounds_toArray, List.set_cons_zero, List.set_cons_succ, i64_w, i32_w]
       rfl
      refine ord_ [.p 2 14, .p 3 15, .p 4 16, .p 5 17, .p 6 18, .t 7 19] ?_
      repeat (first | (refine pu_ (v := ?_) (a' := ?_) HT_ rfl rfl (by kernel_rfl) (fun _ _ _ h => h) (by rfl) ?_ ?_ ?_; rotate_left 2; (intro w'; go_simp; with_reducible rfl); (simp only [Act.put, List.setIfInBounds_toArray, List.set_cons_zero, List.set_cons_succ, i64_w, i32_w]; rfl)) | (refine ta_ (v := ?_) (a' := ?_) HT_ HW_ rfl rfl (by kernel_rfl) (fun _ _ _ h => h) (by rfl) hHeld ?_ ?_ ?_; rotate_left 2; (rintro w' ⟨s0, s1, s2, s3, s4⟩; go_simp; with_reducible rfl); (simp only [Act.put, List.setIfInBounds_toArray, List.set_cons_zero, List.set_cons_succ, i64_w, i32_w]; rfl)))
      refine ord0 ?_
      refine on_ (i := 8) (N := some 20) HT_ rfl rfl (by kernel_rfl) (by decide) (fun K hK => ?_)
      refine goM gf134 #[.slice (some ad101) y104.length c0, .agg #[.string ((rd_T103 l0 x7_1).f0), .bool ((rd_T103 l0 x7_1).f1), .string ((rd_T103 l0 x7_1).f2), .string ((rd_T103 l0 x7_1).f3), .string ((rd_T103 l0 x7_1).f4)]] (by rfl) rfl rfl rfl ?_
      with_reducible refine (impl_Affix_134.calls k1 _ _ y104 ((rd_T103 l0 x7_1).f0) ((rd_T103 l0 x7_1).f1) ((rd_T103 l0 x7_1).f2) ((rd_T103 l0 x7_1).f3) ((rd_T103 l0 x7_1).f4) false _ ?side1 ?side2 A9.out).mono ?_
      (case side1 => exact cx (Kd.C_below HR107.out HB.out))
      (case side2 => exact HC107.out)
      rintro e w24 ⟨rfl, hb⟩
      refine ⟨_, rfl, ?_⟩
      replace BK102 := kb BK102 hb
      replace HB := kB HB hb
      (try clear hb)
      (try clear hb2)
      (try clear hk)
      (try clear hi)
      refine hK.out _ _ ⟨(blk_cell BK102.out 0).trans rfl, (blk_cell BK102.out 1).trans rfl, (blk_cell BK102.out 2).trans rfl, (blk_cell BK102.out 3).trans rfl, (blk_cell BK102.out 4).trans rfl⟩ (fun hHeld => ?_)
      clear hK K
      refine norm_ (a' := ?_) ?_ ?_
      rotate_left
      ·show Act.put _ (some 20) _ = _
       simp only [Act.put, List.setIfInBounds_toArray, List.set_cons_zero, List.set_cons_succ, i64_w, i32_w]
       rfl
      refine ord_ [.p 9 21] ?_
      repeat (refine pu_ (v := ?_) (a' := ?_) HT_ rfl rfl (by kernel_rfl) (fun _ _ _ h => h) (by rfl) ?_ ?_ ?_; rotate_left 2; (intro w'; go_simp; with_reducible rfl); (simp only [Act.put, List.setIfInBounds_toArray, List.set_cons_zero, List.set_cons_succ, i64_w, i32_w]; rfl))
      refine ord0 ?_
      refine done_ (done_of HT_.out (by kernel_rfl)) ?_
      try go_wp2
      go_roundg k1
      case measure => have := HK1.out; omega
      case rel => exact ⟨(wrap64 (x7_1 + 1)), (by first | rfl | (simp; done) | (simp [*]; done)), H', ⟨by have := HK1.out; omega⟩, ⟨bx HB.out⟩⟩
    ·replace c6 := Bool.eq_false_iff.mpr c6
     subst c6
     rw [if_neg Bool.false_ne_true] at H
     obtain rfl := Option.some.inj H
     have p101 := of_decide_eq_true c3b0
     have q101 := of_decide_eq_true c4b0
     obtain ⟨ad101, e101, hx101_0, hx101_1, hx101_2, hx101_3, hx101_4⟩ := at_T103 HR0.out x7_1 p101 q101
     cases e101
     replace hx101_0 := px HB.out hx101_0
     replace hx101_1 := px HB.out hx101_1
     replace hx101_2 := px HB.out hx101_2
     replace hx101_3 := px HB.out hx101_3
     replace hx101_4 := px HB.out hx101_4
     replace p101 := eq_true p101
     replace q101 := eq_true q101
     try go_wp2_with (first | ((with_reducible refine gate_dst (N := 4) rfl ?_); refine box_event rfl (N := 4) rfl (cs := #[.string (⟨#[]⟩ : ByteArray), .bool false, .string (⟨#[]⟩ : ByteArray), .string (⟨#[]⟩ : ByteArray), .string (⟨#[]⟩ : ByteArray)]) (t := 103) (by go_simp <;> rfl) ?_; intro gb102 hg w25 hbox hb; have BK102 := Aside0.mk (hbox); have GW102 := Le_.mk (ge_of hg HB.out); have GE102 := Le_.mk (ge_of hg HB.out); replace HB := kB HB hb; clear hb hbox hg; have hz26 := cells_5 BK102.out))
     have n0_ : Aside0 ((((((w25.setCell ⟨gb102, 0, none⟩ (.string ((rd_T103 l0 x7_1).f0))).setCell ⟨gb102, 1, none⟩ (.bool ((rd_T103 l0 x7_1).f1))).setCell ⟨gb102, 2, none⟩ (.string ((rd_T103 l0 x7_1).f2))).setCell ⟨gb102, 3, none⟩ (.string ((rd_T103 l0 x7_1).f3))).setCell ⟨gb102, 4, none⟩ (.string ((rd_T103 l0 x7_1).f4))).heap[gb102]? = some (.cells #[.string ((rd_T103 l0 x7_1).f0), .bool ((rd_T103 l0 x7_1).f1), .string ((rd_T103 l0 x7_1).f2), .string ((rd_T103 l0 x7_1).f3), .string ((rd_T103 l0 x7_1).f4)] 103 (0, 0))) := ⟨cl BK102.out rfl⟩
     have n1_ : Aside0 (Below w.heap.size w (((((w25.setCell ⟨gb102, 0, none⟩ (.string ((rd_T103 l0 x7_1).f0))).setCell ⟨gb102, 1, none⟩ (.bool ((rd_T103 l0 x7_1).f1))).setCell ⟨gb102, 2, none⟩ (.string ((rd_T103 l0 x7_1).f2))).setCell ⟨gb102, 3, none⟩ (.string ((rd_T103 l0 x7_1).f3))).setCell ⟨gb102, 4, none⟩ (.string ((rd_T103 l0 x7_1).f4)))) := ⟨bx HB.out⟩
     (try clear BK102)
     (try clear HB)
     generalize (((((w25.setCell ⟨gb102, 0, none⟩ (.string ((rd_T103 l0 x7_1).f0))).setCell ⟨gb102, 1, none⟩ (.bool ((rd_T103 l0 x7_1).f1))).setCell ⟨gb102, 2, none⟩ (.string ((rd_T103 l0 x7_1).f2))).setCell ⟨gb102, 3, none⟩ (.string ((rd_T103 l0 x7_1).f3))).setCell ⟨gb102, 4, none⟩ (.string ((rd_T103 l0 x7_1).f4))) = w27 at n0_ n1_ ⊢
     have BK102 := n0_
     have HB := n1_
     clear n0_ n1_
     replace BK102 := Aside0.mk (blk_drew BK102.out)
     replace HB := Aside0.mk (below_drew1 HB.out)
     refine start_ (n := 10) (S := fun w' => w'.cell? ⟨gb102, 0, none⟩ = some (.string ((rd_T103 l0 x7_1).f0)) ∧ w'.cell? ⟨gb102, 1, none⟩ = some (.bool ((rd_T103 l0 x7_1).f1)) ∧ w'.cell? ⟨gb102, 2, none⟩ = some (.string ((rd_T103 l0 x7_1).f2)) ∧ w'.cell? ⟨gb102, 3, none⟩ = some (.string ((rd_T103 l0 x7_1).f3)) ∧ w'.cell? ⟨gb102, 4, none⟩ = some (.string ((rd_T103 l0 x7_1).f4))) (ds := []) _ (by kernel_rfl) rfl rfl ⟨(blk_cell BK102.out 0).trans rfl, (blk_cell BK102.out 1).trans rfl, (blk_cell BK102.out 2).trans rfl, (blk_cell BK102.out 3).trans rfl, (blk_cell BK102.out 4).trans rfl⟩ (fun hHeld => ?_); refine with_tabW impl_affixesOk.tab4 impl_affixesOk.bits4 (fun HT_ HW_ => ?_)
     generalize w27.drew = w28 at BK102 HB hHeld ⊢
     refine ord_ [.t 0 12] ?_
     repeat (refine ta_ (v := ?_) (a' := ?_) HT_ HW_ rfl rfl (by kernel_rfl) (fun _ _ _ h => h) (by rfl) hHeld ?_ ?_ ?_; rotate_left 2; (rintro w' ⟨s0, s1, s2, s3, s4⟩; go_simp; with_reducible rfl); (simp only [Act.put, List.setIfInBounds_toArray, List.set_cons_zero, List.set_cons_succ, i64_w, i32_w]; rfl))
     refine ord0 ?_
     refine on_ (i := 1) (N := some 13) HT_ rfl rfl (by kernel_rfl) (by decide) (fun K hK => ?_)
     refine goM gf133 #[.agg #[.string ((rd_T103 l0 x7_1).f0), .bool ((rd_T103 l0 x7_1).f1), .string ((rd_T103 l0 x7_1).f2), .string ((rd_T103 l0 x7_1).f3), .string ((rd_T103 l0 x7_1).f4)]] (by rfl) rfl rfl rfl ?_
     with_reducible refine (impl_AffixOk.calls k1 ((rd_T103 l0 x7_1).f0) ((rd_T103 l0 x7_1).f1) ((rd_T103 l0 x7_1).f2) ((rd_T103 l0 x7_1).f3) ((rd_T103 l0 x7_1).f4) false _ A5.out).mono ?_
     rintro e w29 ⟨rfl, hb⟩
     refine ⟨_, rfl, ?_⟩
     replace BK102 := kb BK102 hb
     replace HB := kB HB hb
     (try clear hb)
     (try clear hb2)
     (try clear hk)
     (try clear hi)
     refine hK.out _ _ ⟨(blk_cell BK102.out 0).trans rfl, (blk_cell BK102.out 1).trans rfl, (blk_cell BK102.out 2).trans rfl, (blk_cell BK102.out 3).trans rfl, (blk_cell BK102.out 4).trans rfl⟩ (fun hHeld => ?_)
     clear hK K
     refine norm_ (a' := ?_) ?_ ?_
     rotate_left
     ·show Act.put _ (some 13) _ = _
      simp only [Act.put, List.setIfInBounds_toArray, List.set_cons_zero, List.set_cons_succ, i64_w, i32_w]
      rfl
     refine ord_ [.p 2 14, .p 3 15, .u 4 16, .u 5 17, .u 6 18, .u 7 19, .u 8 20, .p 9 21] ?_
     repeat (first | (refine pu_ (v := ?_) (a' := ?_) HT_ rfl rfl (by kernel_rfl) (fun _ _ _ h => h) (by rfl) ?_ ?_ ?_; rotate_left 2; (intro w'; go_simp; with_reducible rfl); (simp only [Act.put, List.setIfInBounds_toArray, List.set_cons_zero, List.set_cons_succ, i64_w, i32_w]; rfl)) | (refine un_ (a' := ?_) HT_ rfl rfl (by kernel_rfl) (fun _ _ _ h => h) (by rfl) ?_ ?_; rotate_left; (simp only [Act.put, List.setIfInBounds_toArray, List.set_cons_zero, List.set_cons_succ, i64_w, i32_w]; rfl)))
     refine ord0 ?_
     refine done_ (done_of HT_.out (by kernel_rfl)) ?_
     try go_wp2
     go_ret
     exact ⟨by rfl, bx HB.out⟩
   ·rw [if_neg c2] at H
    have c2b0 := decide_eq_false c2
    clear c2
    obtain rfl := Option.some.inj H
    go_wp2
    go_ret
    exact ⟨by rfl, bx HB.out⟩
theorem gf54 : Go_ Tryz.prog 54 Tryz.f54 := ⟨Tryz.func54, by kernel_rfl, rfl⟩
def impl_within.f (a0 : Int) (a1 : Int) (a2 : Int) : Option (Bool) := if a0 ≥ a1 then (some (decide (a0 ≤ a2))) else (some false)
theorem impl_within.calls (a0 : Int) (a1 : Int) (a2 : Int) (r : Bool) (w : World) (h : impl_within.f a0 a1 a2 = some r) :
  Calls Tryz.prog 54 #[.int .i64 a0, .int .i64 a1, .int .i64 a2] w fun e w' => e = .returned (.bool r) ∧ Drawn0 w w' := by
 unfold impl_within.f at h
 have H := h
 clear h
 by_cases c4 : a0 ≥ a1
 ·rw [if_pos c4] at H
  have c4b0 : decide (a1 ≤ a0) = true := decide_eq_true c4
  clear c4
  obtain rfl := Option.some.inj H
  go_enter Tryz.func54, Tryz.ntmps54
  go_wp2
  go_ret
  exact ⟨by first | rfl | (simp; done) | (simp [*]; done), by repeat (first | exact Drawn0.refl _ | apply Drawn0.step)⟩
 ·rw [if_neg c4] at H
  have c4b0 : decide (a1 ≤ a0) = false := decide_eq_false c4
  clear c4
  obtain rfl := Option.some.inj H
  go_enter Tryz.func54, Tryz.ntmps54
  go_wp2
  go_ret
  exact ⟨by first | rfl | (simp; done) | (simp [*]; done), by repeat (first | exact Drawn0.refl _ | apply Drawn0.step)⟩
theorem gf142 : Go_ Tryz.prog 142 Tryz.f142 := ⟨Tryz.func142, by kernel_rfl, rfl⟩
def impl_WordOk.f (k : Nat) (a0 : ByteArray) : Option (Bool) := (impl_within.f (a0.size : Int) 1 12).bind fun t101 => (if t101 = true then ((impl_lower.f k a0).bind fun t102 => (some t102)) else (some false))
theorem impl_WordOk.mono : ∀ a0 k, LeO (impl_WordOk.f k a0) (impl_WordOk.f (k + 1) a0) := by
 intro a0 k
 unfold impl_WordOk.f
 have I0_ := fun a b => LeC.mk (impl_lower.mono a b)
 exact LeC.out
theorem impl_WordOk.calls (k : Nat) (a0 : ByteArray) (r : Bool) (w : World) (h : impl_WordOk.f k a0 = some r) :
  Calls Tryz.prog 142 #[.string a0] w fun e w' => e = .returned (.bool r) ∧ Drawn0 w w' := by
 unfold impl_WordOk.f at h
 have H := h
 clear h
 replace H := Option.bind_eq_some_iff.mp H
 obtain ⟨t101, A20, H⟩ := H
 have A2 := Aside0.mk A20
 clear A20
 by_cases c3 : t101 = true
 ·subst c3
  rw [if_pos rfl] at H
  replace H := Option.bind_eq_some_iff.mp H
  obtain ⟨t102, A40, H⟩ := H
  have A4 := Aside0.mk A40
  clear A40
  obtain rfl := Option.some.inj H
  go_enter Tryz.func142, Tryz.ntmps142
  go_wp2_with (first | ((with_reducible refine gate_callee (f := 54) rfl ?_); refine goL (some 5) rfl rfl gf54 #[.int .i64 (a0.size : Int), .int .i64 1, .int .i64 12] rfl rfl ?_; (with_reducible refine (impl_within.calls (a0.size : Int) 1 12 true _ A2.out).mono ?_); rintro e w' ⟨rfl, ⟨nd, rfl⟩⟩; refine ⟨_, rfl, ?_⟩) | (go_at_call 165; (with_reducible refine (impl_lower.calls k a0 t102 _ A4.out).mono ?_); rintro e w' ⟨rfl, ⟨nd, rfl⟩⟩))
  go_ret
  exact ⟨by first | rfl | (simp; done) | (simp [*]; done), by repeat (first | exact Drawn0.refl _ | apply Drawn0.step)⟩
 ·replace c3 := Bool.eq_false_iff.mpr c3
  subst c3
  rw [if_neg Bool.false_ne_true] at H
  obtain rfl := Option.some.inj H
  go_enter Tryz.func142, Tryz.ntmps142
  go_wp2_with (first | ((with_reducible refine gate_callee (f := 54) rfl ?_); refine goL (some 5) rfl rfl gf54 #[.int .i64 (a0.size : Int), .int .i64 1, .int .i64 12] rfl rfl ?_; (with_reducible refine (impl_within.calls (a0.size : Int) 1 12 false _ A2.out).mono ?_); rintro e w' ⟨rfl, ⟨nd, rfl⟩⟩; refine ⟨_, rfl, ?_⟩))
  go_ret
  exact ⟨by first | rfl | (simp; done) | (simp [*]; done), by repeat (first | exact Drawn0.refl _ | apply Drawn0.step)⟩
theorem gf135 : Go_ Tryz.prog 135 Tryz.f135 := ⟨Tryz.func135, by kernel_rfl, rfl⟩
def impl_entryOk.l0 : Nat → Int → Int → ByteArray → ByteArray → Option (Bool)
 | 0, _, _, _, _ => none
 | k + 1, x6, x7, x102000, x102001 => if x7 < x6 then (if 0 ≤ x7 then (if x7 < (x102001.size : Int) then ((impl_upper.f (bt x102001 x7)).bind fun t102 => (if t102 = true then (if x7 > 0 then (if 0 ≤ (wrap64 (x7 - 1)) then (if (wrap64 (x7 - 1)) < (x102001.size : Int) then (if (bt x102001 (wrap64 (x7 - 1))) ≥ (bt x102001 x7) then (some false) else (impl_entryOk.l0 k x6 (wrap64 (x7 + 1)) x102000 x102001)) else (none)) else (none)) else (impl_entryOk.l0 k x6 (wrap64 (x7 + 1)) x102000 x102001)) else (some false))) else (none)) else (none)) else ((impl_WordOk.f k x102000).bind fun t103 => (if t103 = true then (some (decide ((x102001.size : Int) ≤ 4))) else (some false)))
def impl_entryOk.f (k : Nat) (a0_0 : ByteArray) (a0_1 : ByteArray) : Option (Bool) := impl_entryOk.l0 k (a0_1.size : Int) 0 a0_0 a0_1
theorem impl_entryOk.mono_l : ∀ k, (∀ y0 y1 y2 y3, LeO (impl_entryOk.l0 k y0 y1 y2 y3) (impl_entryOk.l0 (k + 1) y0 y1 y2 y3))
 | 0 => fun _ _ _ _ r h => by simp [impl_entryOk.l0] at h
 | k + 1 => by
  have ih0 := impl_entryOk.mono_l k
  ·intro y0 y1 y2 y3
   unfold impl_entryOk.l0
   have I0_ := fun a b c d => LeC.mk (ih0 a b c d)
   have I1_ := fun a b => LeC.mk (impl_WordOk.mono a b)
   exact LeC.out
theorem impl_entryOk.mono : ∀ a0 a1 k, LeO (impl_entryOk.f k a0 a1) (impl_entryOk.f (k + 1) a0 a1) := by
 intro a0 a1 k
 have ih0 := impl_entryOk.mono_l k
 unfold impl_entryOk.f
 have I0_ := fun a b c d => LeC.mk (ih0 a b c d)
 have I1_ := fun a b => LeC.mk (impl_WordOk.mono a b)
 exact LeC.out
theorem impl_entryOk.calls (k : Nat) (a0_0 : ByteArray) (a0_1 : ByteArray) (r : Bool) (w : World) (h : impl_entryOk.f k a0_0 a0_1 = some r) :
  Calls Tryz.prog 135 #[.agg #[.string a0_0, .string a0_1]] w fun e w' => e = .returned (.bool r) ∧ Below w.heap.size w w' := by
 have hu100 := Tryz.underlying100
 have HB := Aside0.mk (Below.refl w.heap.size w)
 unfold impl_entryOk.f at h
 have H := h
 clear h
 have H' := Aside0.mk H
 clear H
 go_enter Tryz.func135, Tryz.ntmps135
 go_wp2_with (first | ((with_reducible refine gate_dst (N := 1) rfl ?_); (try (refine gate_guard (by rfl) ?_; dsimp only)); refine box_event rfl (N := 1) rfl (cs := #[.string a0_0, .string a0_1]) (t := 100) (by go_simp <;> rfl) ?_; intro gb101 hg w2 hbox hb; have BK101 := Aside0.mk (hbox); have GW101 := Le_.mk (ge_of hg HB.out); have GE101 := Le_.mk (ge_of hg HB.out); replace HB := kB HB hb; clear hb hbox hg; have hz3 := cells_2 BK101.out))
 repeat (go_quiet (first | ((with_reducible refine gate_dst (N := 1) rfl ?_); (try (refine gate_guard (by rfl) ?_; dsimp only)); refine box_event rfl (N := 1) rfl (cs := #[.string a0_0, .string a0_1]) (t := 100) (by go_simp <;> rfl) ?_; intro gb101 hg w2 hbox hb; have BK101 := Aside0.mk (hbox); have GW101 := Le_.mk (ge_of hg HB.out); have GE101 := Le_.mk (ge_of hg HB.out); replace HB := kB HB hb; clear hb hbox hg; have hz3 := cells_2 BK101.out)); try go_wp2_with (first | ((with_reducible refine gate_dst (N := 1) rfl ?_); (try (refine gate_guard (by rfl) ?_; dsimp only)); refine box_event rfl (N := 1) rfl (cs := #[.string a0_0, .string a0_1]) (t := 100) (by go_simp <;> rfl) ?_; intro gb101 hg w2 hbox hb; have BK101 := Aside0.mk (hbox); have GW101 := Le_.mk (ge_of hg HB.out); have GE101 := Le_.mk (ge_of hg HB.out); replace HB := kB HB hb; clear hb hbox hg; have hz3 := cells_2 BK101.out)))
 go_loopg [7] k (fun kq v7 w' => ∃ (x7_1 : Int), v7 = .int .i64 x7_1 ∧ Aside0 (impl_entryOk.l0 kq (a0_1.size : Int) x7_1 a0_0 a0_1 = some r) ∧ Aside0 (kq ≤ k) ∧ Aside0 (w'.heap[gb101]? = some (.cells #[.string a0_0, .string a0_1] 100 (0, 0))) ∧ Aside0 (Below w.heap.size w w'))
 case atStart => exact ⟨(0), (by first | rfl | (simp; done) | (simp [*]; done)), H', ⟨Nat.le_refl _⟩, ⟨gx (BK101.out)⟩, ⟨bx HB.out⟩⟩
 case round =>
  clear H'
  try clear c1
  try clear p2
  try clear hz3
  obtain ⟨x7_1, rfl, HA, HK1, BK101, HB⟩ := hrel
  cases gk with
  | zero => exact absurd HA.out (by simp [impl_entryOk.l0])
  | succ k1 =>
   have H := HA.out
   clear HA
   simp only [impl_entryOk.l0] at H
   by_cases c4 : x7_1 < (a0_1.size : Int)
   ·rw [if_pos c4] at H
    have c4b0 := decide_eq_true c4
    clear c4
    have c5 := ite_y H
    replace H := ite_t H
    have c5b0 := decide_eq_true c5
    clear c5
    have c6 := ite_y H
    replace H := ite_t H
    have c6b0 := decide_eq_true c6
    clear c6
    replace H := Option.bind_eq_some_iff.mp H
    obtain ⟨t102, A80, H⟩ := H
    have A8 := Aside0.mk A80
    clear A80
    by_cases c9 : t102 = true
    ·subst c9
     rw [if_pos rfl] at H
     by_cases c10 : x7_1 > 0
     ·rw [if_pos c10] at H
      have c10b0 : decide (0 < x7_1) = true := decide_eq_true c10
      clear c10
      obtain ⟨ji11, hji11⟩ : ∃ j_ : Int, (wrap64 (x7_1 - 1)) = j_ := ⟨_, rfl⟩
      replace H : (if 0 ≤ (ji11) then (if (ji11) < (a0_1.size : Int) then (if (bt a0_1 (ji11)) ≥ (bt a0_1 x7_1) then (some false) else (impl_entryOk.l0 k1 (a0_1.size : Int) (wrap64 (x7_1 + 1)) a0_0 a0_1)) else (none)) else (none)) = some r := by first | (rw [hji11] at H; exact H) | (simp only [hji11] at H ⊢; exact H)
      (try rw [hji11] at A8)
      have hji11w : (IntKind.i64.wrap (x7_1 - 1)) = ji11 := (i64_w _).trans hji11
      have c12 := ite_y H
      replace H := ite_t H
      have c12b0 := decide_eq_true c12
      clear c12
      have c13 := ite_y H
      replace H := ite_t H
      have c13b0 := decide_eq_true c13
      clear c13
      by_cases c16 : (bt a0_1 (ji11)) ≥ (bt a0_1 x7_1)
      ·rw [if_pos c16] at H
       have c16b0 : decide ((bt a0_1 x7_1) ≤ (bt a0_1 (ji11))) = true := decide_eq_true c16
       clear c16
       obtain rfl := Option.some.inj H
       have hz17 := cells_2 BK101.out
       have p7 := of_decide_eq_true c5b0
       have q7 := of_decide_eq_true c6b0
       have hx7 := bt_at a0_1 x7_1
       replace p7 := eq_true p7
       replace q7 := eq_true q7
       go_wp2_with (first | (go_at_call 164; (with_reducible refine (impl_upper.calls (bt a0_1 x7_1) true _ A8.out).mono ?_); rintro e w' ⟨rfl, ⟨nd, rfl⟩⟩; (try first | exact ⟨rfl, _, World.drewN_drewN _ _ _⟩ | exact ⟨rfl, _, Eq.trans (World.drewN_drewN _ _ _) (congrArg (World.drewN _) (Nat.add_assoc _ _ _))⟩); have p14 := of_decide_eq_true c12b0; have q14 := of_decide_eq_true c13b0; have hx14 := bt_at a0_1 (ji11); replace p14 := eq_true p14; replace q14 := eq_true q14; have p15 := of_decide_eq_true c5b0; have q15 := of_decide_eq_true c6b0; have hx15 := bt_at a0_1 x7_1; replace p15 := eq_true p15; replace q15 := eq_true q15))
       repeat (go_quiet (first | (go_at_call 164; (with_reducible refine (impl_upper.calls (bt a0_1 x7_1) true _ A8.out).mono ?_); rintro e w' ⟨rfl, ⟨nd, rfl⟩⟩; (try first | exact ⟨rfl, _, World.drewN_drewN _ _ _⟩ | exact ⟨rfl, _, Eq.trans (World.drewN_drewN _ _ _) (congrArg (World.drewN _) (Nat.add_assoc _ _ _))⟩); have p14 := of_decide_eq_true c12b0; have q14 := of_decide_eq_true c13b0; have hx14 := bt_at a0_1 (ji11); replace p14 := eq_true p14; replace q14 := eq_true q14; have p15 := of_decide_eq_true c5b0; have q15 := of_decide_eq_true c6b0; have hx15 := bt_at a0_1 x7_1; replace p15 := eq_true p15; replace q15 := eq_true q15)); try go_wp2_with (first | (go_at_call 164; (with_reducible refine (impl_upper.calls (bt a0_1 x7_1) true _ A8.out).mono ?_); rintro e w' ⟨rfl, ⟨nd, rfl⟩⟩; (try first | exact ⟨rfl, _, World.drewN_drewN _ _ _⟩ | exact ⟨rfl, _, Eq.trans (World.drewN_drewN _ _ _) (congrArg (World.drewN _) (Nat.add_assoc _ _ _))⟩); have p14 := of_decide_eq_true c12b0; have q14 := of_decide_eq_true c13b0; have hx14 := bt_at a0_1 (ji11); replace p14 := eq_true p14; replace q14 := eq_true q14; have p15 := of_decide_eq_true c5b0; have q15 := of_decide_eq_true c6b0; have hx15 := bt_at a0_1 x7_1; replace p15 := eq_true p15; replace q15 := eq_true q15)))
       go_ret
       exact ⟨by first | rfl | (simp [errW_none, errW_some] <;> rfl) | (simp only [← hji11]; first | rfl | (simp [errW_none, errW_some] <;> rfl)) | (simp [*, errW_none, errW_some] <;> rfl), bx HB.out⟩
      ·rw [if_neg c16] at H
       have c16b0 : decide ((bt a0_1 x7_1) ≤ (bt a0_1 (ji11))) = false := decide_eq_false c16
       clear c16
       have H' := Aside0.mk H
       clear H
       have hz18 := cells_2 BK101.out
       have p7 := of_decide_eq_true c5b0
       have q7 := of_decide_eq_true c6b0
       have hx7 := bt_at a0_1 x7_1
       replace p7 := eq_true p7
       replace q7 := eq_true q7
       go_wp2_with (first | (go_at_call 164; (with_reducible refine (impl_upper.calls (bt a0_1 x7_1) true _ A8.out).mono ?_); rintro e w' ⟨rfl, ⟨nd, rfl⟩⟩; (try first | exact ⟨rfl, _, World.drewN_drewN _ _ _⟩ | exact ⟨rfl, _, Eq.trans (World.drewN_drewN _ _ _) (congrArg (World.drewN _) (Nat.add_assoc _ _ _))⟩); have p14 := of_decide_eq_true c12b0; have q14 := of_decide_eq_true c13b0; have hx14 := bt_at a0_1 (ji11); replace p14 := eq_true p14; replace q14 := eq_true q14; have p15 := of_decide_eq_true c5b0; have q15 := of_decide_eq_true c6b0; have hx15 := bt_at a0_1 x7_1; replace p15 := eq_true p15; replace q15 := eq_true q15))
       repeat (go_quiet (first | (go_at_call 164; (with_reducible refine (impl_upper.calls (bt a0_1 x7_1) true _ A8.out).mono ?_); rintro e w' ⟨rfl, ⟨nd, rfl⟩⟩; (try first | exact ⟨rfl, _, World.drewN_drewN _ _ _⟩ | exact ⟨rfl, _, Eq.trans (World.drewN_drewN _ _ _) (congrArg (World.drewN _) (Nat.add_assoc _ _ _))⟩); have p14 := of_decide_eq_true c12b0; have q14 := of_decide_eq_true c13b0; have hx14 := bt_at a0_1 (ji11); replace p14 := eq_true p14; replace q14 := eq_true q14; have p15 := of_decide_eq_true c5b0; have q15 := of_decide_eq_true c6b0; have hx15 := bt_at a0_1 x7_1; replace p15 := eq_true p15; replace q15 := eq_true q15)); try go_wp2_with (first | (go_at_call 164; (with_reducible refine (impl_upper.calls (bt a0_1 x7_1) true _ A8.out).mono ?_); rintro e w' ⟨rfl, ⟨nd, rfl⟩⟩; (try first | exact ⟨rfl, _, World.drewN_drewN _ _ _⟩ | exact ⟨rfl, _, Eq.trans (World.drewN_drewN _ _ _) (congrArg (World.drewN _) (Nat.add_assoc _ _ _))⟩); have p14 := of_decide_eq_true c12b0; have q14 := of_decide_eq_true c13b0; have hx14 := bt_at a0_1 (ji11); replace p14 := eq_true p14; replace q14 := eq_true q14; have p15 := of_decide_eq_true c5b0; have q15 := of_decide_eq_true c6b0; have hx15 := bt_at a0_1 x7_1; replace p15 := eq_true p15; replace q15 := eq_true q15)))
       go_roundg k1
       case measure => have := HK1.out; omega
       case rel => exact ⟨(wrap64 (x7_1 + 1)), (by first | rfl | (simp; done) | (simp [*]; done)), H', ⟨by have := HK1.out; omega⟩, ⟨gx (BK101.out)⟩, ⟨bx HB.out⟩⟩
     ·rw [if_neg c10] at H
      have c10b0 : decide (0 < x7_1) = false := decide_eq_false c10
      clear c10
      have H' := Aside0.mk H
      clear H
      have hz19 := cells_2 BK101.out
      have p7 := of_decide_eq_true c5b0
      have q7 := of_decide_eq_true c6b0
      have hx7 := bt_at a0_1 x7_1
      replace p7 := eq_true p7
      replace q7 := eq_true q7
      go_wp2_with (first | (go_at_call 164; (with_reducible refine (impl_upper.calls (bt a0_1 x7_1) true _ A8.out).mono ?_); rintro e w' ⟨rfl, ⟨nd, rfl⟩⟩; (try first | exact ⟨rfl, _, World.drewN_drewN _ _ _⟩ | exact ⟨rfl, _, Eq.trans (World.drewN_drewN _ _ _) (congrArg (World.drewN _) (Nat.add_assoc _ _ _))⟩)))
      repeat (go_quiet (first | (go_at_call 164; (with_reducible refine (impl_upper.calls (bt a0_1 x7_1) true _ A8.out).mono ?_); rintro e w' ⟨rfl, ⟨nd, rfl⟩⟩; (try first | exact ⟨rfl, _, World.drewN_drewN _ _ _⟩ | exact ⟨rfl, _, Eq.trans (World.drewN_drewN _ _ _) (congrArg (World.drewN _) (Nat.add_assoc _ _ _))⟩))); try go_wp2_with (first | (go_at_call 164; (with_reducible refine (impl_upper.calls (bt a0_1 x7_1) true _ A8.out).mono ?_); rintro e w' ⟨rfl, ⟨nd, rfl⟩⟩; (try first | exact ⟨rfl, _, World.drewN_drewN _ _ _⟩ | exact ⟨rfl, _, Eq.trans (World.drewN_drewN _ _ _) (congrArg (World.drewN _) (Nat.add_assoc _ _ _))⟩))))
      go_roundg k1
      case measure => have := HK1.out; omega
      case rel => exact ⟨(wrap64 (x7_1 + 1)), (by first | rfl | (simp; done) | (simp [*]; done)), H', ⟨by have := HK1.out; omega⟩, ⟨gx (BK101.out)⟩, ⟨bx HB.out⟩⟩
    ·replace c9 := Bool.eq_false_iff.mpr c9
     subst c9
     rw [if_neg Bool.false_ne_true] at H
     obtain rfl := Option.some.inj H
     have hz20 := cells_2 BK101.out
     have p7 := of_decide_eq_true c5b0
     have q7 := of_decide_eq_true c6b0
     have hx7 := bt_at a0_1 x7_1
     replace p7 := eq_true p7
     replace q7 := eq_true q7
     go_wp2_with (first | (go_at_call 164; (with_reducible refine (impl_upper.calls (bt a0_1 x7_1) false _ A8.out).mono ?_); rintro e w' ⟨rfl, ⟨nd, rfl⟩⟩; (try first | exact ⟨rfl, _, World.drewN_drewN _ _ _⟩ | exact ⟨rfl, _, Eq.trans (World.drewN_drewN _ _ _) (congrArg (World.drewN _) (Nat.add_assoc _ _ _))⟩)))
     repeat (go_quiet (first | (go_at_call 164; (with_reducible refine (impl_upper.calls (bt a0_1 x7_1) false _ A8.out).mono ?_); rintro e w' ⟨rfl, ⟨nd, rfl⟩⟩; (try first | exact ⟨rfl, _, World.drewN_drewN _ _ _⟩ | exact ⟨rfl, _, Eq.trans (World.drewN_drewN _ _ _) (congrArg (World.drewN _) (Nat.add_assoc _ _ _))⟩))); try go_wp2_with (first | (go_at_call 164; (with_reducible refine (impl_upper.calls (bt a0_1 x7_1) false _ A8.out).mono ?_); rintro e w' ⟨rfl, ⟨nd, rfl⟩⟩; (try first | exact ⟨rfl, _, World.drewN_drewN _ _ _⟩ | exact ⟨rfl, _, Eq.trans (World.drewN_drewN _ _ _) (congrArg (World.drewN _) (Nat.add_assoc _ _ _))⟩))))
     go_ret
     exact ⟨by rfl, bx HB.out⟩
   ·rw [if_neg c4] at H
    have c4b0 := decide_eq_false c4
    clear c4
    replace H := Option.bind_eq_some_iff.mp H
    obtain ⟨t103, A210, H⟩ := H
    have A21 := Aside0.mk A210
    clear A210
    by_cases c22 : t103 = true
    ·subst c22
     rw [if_pos rfl] at H
     obtain rfl := Option.some.inj H
     have hz23 := cells_2 BK101.out
     go_wp2_with (first | (go_at_call 142; (with_reducible refine (impl_WordOk.calls k1 a0_0 true _ A21.out).mono ?_); rintro e w' ⟨rfl, ⟨nd, rfl⟩⟩; (try first | exact ⟨rfl, _, World.drewN_drewN _ _ _⟩ | exact ⟨rfl, _, Eq.trans (World.drewN_drewN _ _ _) (congrArg (World.drewN _) (Nat.add_assoc _ _ _))⟩)))
     repeat (go_quiet (first | (go_at_call 142; (with_reducible refine (impl_WordOk.calls k1 a0_0 true _ A21.out).mono ?_); rintro e w' ⟨rfl, ⟨nd, rfl⟩⟩; (try first | exact ⟨rfl, _, World.drewN_drewN _ _ _⟩ | exact ⟨rfl, _, Eq.trans (World.drewN_drewN _ _ _) (congrArg (World.drewN _) (Nat.add_assoc _ _ _))⟩))); try go_wp2_with (first | (go_at_call 142; (with_reducible refine (impl_WordOk.calls k1 a0_0 true _ A21.out).mono ?_); rintro e w' ⟨rfl, ⟨nd, rfl⟩⟩; (try first | exact ⟨rfl, _, World.drewN_drewN _ _ _⟩ | exact ⟨rfl, _, Eq.trans (World.drewN_drewN _ _ _) (congrArg (World.drewN _) (Nat.add_assoc _ _ _))⟩))))
     go_ret
     exact ⟨by rfl, bx HB.out⟩
    ·replace c22 := Bool.eq_false_iff.mpr c22
     subst c22
     rw [if_neg Bool.false_ne_true] at H
     obtain rfl := Option.some.inj H
     have hz24 := cells_2 BK101.out
     go_wp2_with (first | (go_at_call 142; (with_reducible refine (impl_WordOk.calls k1 a0_0 false _ A21.out).mono ?_); rintro e w' ⟨rfl, ⟨nd, rfl⟩⟩; (try first | exact ⟨rfl, _, World.drewN_drewN _ _ _⟩ | exact ⟨rfl, _, Eq.trans (World.drewN_drewN _ _ _) (congrArg (World.drewN _) (Nat.add_assoc _ _ _))⟩)))
     repeat (go_quiet (first | (go_at_call 142; (with_reducible refine (impl_WordOk.calls k1 a0_0 false _ A21.out).mono ?_); rintro e w' ⟨rfl, ⟨nd, rfl⟩⟩; (try first | exact ⟨rfl, _, World.drewN_drewN _ _ _⟩ | exact ⟨rfl, _, Eq.trans (World.drewN_drewN _ _ _) (congrArg (World.drewN _) (Nat.add_assoc _ _ _))⟩))); try go_wp2_with (first | (go_at_call 142; (with_reducible refine (impl_WordOk.calls k1 a0_0 false _ A21.out).mono ?_); rintro e w' ⟨rfl, ⟨nd, rfl⟩⟩; (try first | exact ⟨rfl, _, World.drewN_drewN _ _ _⟩ | exact ⟨rfl, _, Eq.trans (World.drewN_drewN _ _ _) (congrArg (World.drewN _) (Nat.add_assoc _ _ _))⟩))))
     go_ret
     exact ⟨by rfl, bx HB.out⟩
theorem gf102 : Go_ Tryz.prog 102 Tryz.f102 := ⟨Tryz.func102, by kernel_rfl, rfl⟩
def impl_entriesOk.l0 : Nat → List (S100) → List (S100) → Int → Int → Option (Bool)
 | 0, _, _, _, _ => none
 | k + 1, x0, x5, x6, x7 => if x7 < x6 then (if 0 ≤ x7 then (if x7 < (x5.length : Int) then ((impl_entryOk.f k ((rd_T100 x5 x7).f0) ((rd_T100 x5 x7).f1)).bind fun t103 => (if t103 = true then (if x7 > 0 then (if 0 ≤ (wrap64 (x7 - 1)) then (if (wrap64 (x7 - 1)) < (x0.length : Int) then (if ((Op.bytesLess (((rd_T100 x0 (wrap64 (x7 - 1))).f0).toList) (((rd_T100 x5 x7).f0).toList)) = true) then (impl_entriesOk.l0 k x0 x5 x6 (wrap64 (x7 + 1))) else (some false)) else (none)) else (none)) else (impl_entriesOk.l0 k x0 x5 x6 (wrap64 (x7 + 1)))) else (some false))) else (none)) else (none)) else (some (decide ((x0.length : Int) ≤ 24)))
def impl_entriesOk.f (k : Nat) (l0 : List (S100)) : Option (Bool) := impl_entriesOk.l0 k l0 l0 (l0.length : Int) 0
theorem impl_entriesOk.mono_l : ∀ k, (∀ y0 y1 y2 y3, LeO (impl_entriesOk.l0 k y0 y1 y2 y3) (impl_entriesOk.l0 (k + 1) y0 y1 y2 y3))
 | 0 => fun _ _ _ _ r h => by simp [impl_entriesOk.l0] at h
 | k + 1 => by
  have ih0 := impl_entriesOk.mono_l k
  ·intro y0 y1 y2 y3
   unfold impl_entriesOk.l0
   have I0_ := fun a b c d => LeC.mk (ih0 a b c d)
   have I1_ := fun a b c => LeC.mk (impl_entryOk.mono a b c)
   exact LeC.out
theorem impl_entriesOk.mono : ∀ a0 k, LeO (impl_entriesOk.f k a0) (impl_entriesOk.f (k + 1) a0) := by
 intro a0 k
 have ih0 := impl_entriesOk.mono_l k
 unfold impl_entriesOk.f
 have I0_ := fun a b c d => LeC.mk (ih0 a b c d)
 have I1_ := fun a b c => LeC.mk (impl_entryOk.mono a b c)
 exact LeC.out
def impl_entriesOk.T4 : Bool × List (List Nat × List Nat) := (true, [([], []), ([0], [0]), ([1], [1]), ([2, 1], [2]), ([3], [3]), ([4, 3], [3, 4]), ([5, 3, 3], [3, 5]), ([6], [6]), ([6], [6]), ([8, 6], [6, 8]), ([7, 9, 6], [6, 7, 9]), ([10, 6], [6, 10]), ([11, 6], [6, 11]), ([6], [6]), ([13, 6], [6, 13]), ([12, 14, 6], [6, 12, 14]), ([6, 15, 3], [3, 6, 15]), ([3, 16], [3, 16])])
def impl_entriesOk.B4 : List Nat := [0, 1, 3, 7, 15, 31, 63, 127, 127, 383, 1023, 2047, 4095, 127, 8319, 32767, 65535, 131071]
theorem impl_entriesOk.tab4 : rtab .any (opsOf Tryz.f102 4) = impl_entriesOk.T4 := by kernel_rfl
theorem impl_entriesOk.bits4 : waitsOk impl_entriesOk.T4.2 impl_entriesOk.B4 = true := by kernel_rfl
theorem impl_entriesOk.calls (k : Nat) (A0 : Option Addr) (c0 : Nat) (l0 : List (S100)) (r : Bool) (w : World) (hr0 : Kd.C k100 w A0 l0.length l0) (hc0 : l0.length ≤ c0) (h : impl_entriesOk.f k l0 = some r) :
  Calls Tryz.prog 102 #[.slice A0 l0.length c0] w fun e w' => e = .returned (.bool r) ∧ Below w.heap.size w w' := by
 have hu100 := Tryz.underlying100
 have HR0 := Aside0.mk hr0
 have HC0 := Aside0.mk hc0
 clear hr0 hc0
 have HB := Aside0.mk (Below.refl w.heap.size w)
 unfold impl_entriesOk.f at h
 have H := h
 clear h
 have H' := Aside0.mk H
 clear H
 go_enter Tryz.func102, Tryz.ntmps102
 go_wp2
 go_loopg [7] k (fun kq v7 w' => ∃ (x7_1 : Int), v7 = .int .i64 x7_1 ∧ Aside0 (impl_entriesOk.l0 kq l0 l0 (l0.length : Int) x7_1 = some r) ∧ Aside0 (kq ≤ k) ∧ Aside0 (Below w.heap.size w w'))
 case atStart => exact ⟨(0), (by first | rfl | (simp; done) | (simp [*]; done)), H', ⟨Nat.le_refl _⟩, ⟨bx HB.out⟩⟩
 case round =>
  clear H'
  try clear c1
  obtain ⟨x7_1, rfl, HA, HK1, HB⟩ := hrel
  cases gk with
  | zero => exact absurd HA.out (by simp [impl_entriesOk.l0])
  | succ k1 =>
   have H := HA.out
   clear HA
   simp only [impl_entriesOk.l0] at H
   by_cases c2 : x7_1 < (l0.length : Int)
   ·rw [if_pos c2] at H
    have c2b0 := decide_eq_true c2
    clear c2
    have c3 := ite_y H
    replace H := ite_t H
    have c3b0 := decide_eq_true c3
    clear c3
    have c4 := ite_y H
    replace H := ite_t H
    have c4b0 := decide_eq_true c4
    clear c4
    replace H := Option.bind_eq_some_iff.mp H
    obtain ⟨t103, A50, H⟩ := H
    have A5 := Aside0.mk A50
    clear A50
    by_cases c6 : t103 = true
    ·subst c6
     rw [if_pos rfl] at H
     by_cases c7 : x7_1 > 0
     ·rw [if_pos c7] at H
      have c7b0 : decide (0 < x7_1) = true := decide_eq_true c7
      clear c7
      obtain ⟨ji8, hji8⟩ : ∃ j_ : Int, (wrap64 (x7_1 - 1)) = j_ := ⟨_, rfl⟩
      replace H : (if 0 ≤ (ji8) then (if (ji8) < (l0.length : Int) then (if ((Op.bytesLess (((rd_T100 l0 (ji8)).f0).toList) (((rd_T100 l0 x7_1).f0).toList)) = true) then (impl_entriesOk.l0 k1 l0 l0 (l0.length : Int) (wrap64 (x7_1 + 1))) else (some false)) else (none)) else (none)) = some r := by first | (rw [hji8] at H; exact H) | (simp only [hji8] at H ⊢; exact H)
      (try rw [hji8] at A5)
      have hji8w : (IntKind.i64.wrap (x7_1 - 1)) = ji8 := (i64_w _).trans hji8
      have c9 := ite_y H
      replace H := ite_t H
      have c9b0 := decide_eq_true c9
      clear c9
      have c10 := ite_y H
      replace H := ite_t H
      have c10b0 := decide_eq_true c10
      clear c10
      by_cases c11 : ((Op.bytesLess (((rd_T100 l0 (ji8)).f0).toList) (((rd_T100 l0 x7_1).f0).toList)) = true)
      ·rw [if_pos c11] at H
       have c11b0 : (Op.bytesLess (((rd_T100 l0 (ji8)).f0).toList) (((rd_T100 l0 x7_1).f0).toList)) = true := c11
       clear c11
       have H' := Aside0.mk H
       clear H
       have p101 := of_decide_eq_true c3b0
       have q101 := of_decide_eq_true c4b0
       obtain ⟨ad101, e101, hx101_0, hx101_1⟩ := at_T100 HR0.out x7_1 p101 q101
       cases e101
       replace hx101_0 := px HB.out hx101_0
       replace hx101_1 := px HB.out hx101_1
       replace p101 := eq_true p101
       replace q101 := eq_true q101
       try go_wp2_with (first | ((with_reducible refine gate_dst (N := 4) rfl ?_); refine box_event rfl (N := 4) rfl (cs := #[.string (⟨#[]⟩ : ByteArray), .string (⟨#[]⟩ : ByteArray)]) (t := 100) (by go_simp <;> rfl) ?_; intro gb102 hg w12 hbox hb; have BK102 := Aside0.mk (hbox); have GW102 := Le_.mk (ge_of hg HB.out); have GE102 := Le_.mk (ge_of hg HB.out); replace HB := kB HB hb; clear hb hbox hg; have hz13 := cells_2 BK102.out))
       have n0_ : Aside0 (((w12.setCell ⟨gb102, 0, none⟩ (.string ((rd_T100 l0 x7_1).f0))).setCell ⟨gb102, 1, none⟩ (.string ((rd_T100 l0 x7_1).f1))).heap[gb102]? = some (.cells #[.string ((rd_T100 l0 x7_1).f0), .string ((rd_T100 l0 x7_1).f1)] 100 (0, 0))) := ⟨cl BK102.out rfl⟩
       have n1_ : Aside0 (Below w.heap.size w ((w12.setCell ⟨gb102, 0, none⟩ (.string ((rd_T100 l0 x7_1).f0))).setCell ⟨gb102, 1, none⟩ (.string ((rd_T100 l0 x7_1).f1)))) := ⟨bx HB.out⟩
       (try clear BK102)
       (try clear HB)
       generalize ((w12.setCell ⟨gb102, 0, none⟩ (.string ((rd_T100 l0 x7_1).f0))).setCell ⟨gb102, 1, none⟩ (.string ((rd_T100 l0 x7_1).f1))) = w14 at n0_ n1_ ⊢
       have BK102 := n0_
       have HB := n1_
       clear n0_ n1_
       replace BK102 := Aside0.mk (blk_drew BK102.out)
       replace HB := Aside0.mk (below_drew1 HB.out)
       have p104 := of_decide_eq_true c9b0
       have q104 := of_decide_eq_true c10b0
       obtain ⟨ad104, e104, hx104_0, hx104_1⟩ := at_T100 HR0.out (ji8) p104 q104
       have hw104_1 := hx104_1
       have hw104_0 := hx104_0
       obtain rfl : ad101 = ad104 := (by injection e104)
       replace hx104_0 := px HB.out hx104_0
       replace hx104_1 := px HB.out hx104_1
       replace p104 := eq_true p104
       replace q104 := eq_true q104
       refine start_ (n := 18) (S := fun w' => w'.cell? ⟨gb102, 0, none⟩ = some (.string ((rd_T100 l0 x7_1).f0)) ∧ w'.cell? ⟨gb102, 1, none⟩ = some (.string ((rd_T100 l0 x7_1).f1)) ∧ w'.cell? (ad101.add (((ji8)).toNat * 2)) = some (.string ((rd_T100 l0 (ji8)).f0)) ∧ w'.cell? ⟨(ad101.add (((ji8)).toNat * 2)).block, (ad101.add (((ji8)).toNat * 2)).off + 1, none⟩ = some (.string ((rd_T100 l0 (ji8)).f1))) (ds := []) _ (by kernel_rfl) rfl rfl ⟨(blk_cell BK102.out 0).trans rfl, (blk_cell BK102.out 1).trans rfl, (px HB.out hw104_0), (px HB.out hw104_1)⟩ (fun hHeld => ?_); refine with_tabW impl_entriesOk.tab4 impl_entriesOk.bits4 (fun HT_ HW_ => ?_)
       generalize w14.drew = w15 at BK102 HB hx104_0 hx104_1 hHeld ⊢
       refine ord_ [.t 0 12] ?_
       repeat (refine ta_ (v := ?_) (a' := ?_) HT_ HW_ rfl rfl (by kernel_rfl) (fun _ _ _ h => h) (by rfl) hHeld ?_ ?_ ?_; rotate_left 2; (rintro w' ⟨s0, s1, s2, s3⟩; go_simp; with_reducible rfl); (simp only [Act.put, List.setIfInBounds_toArray, List.set_cons_zero, List.set_cons_succ, i64_w, i32_w]; rfl))
       refine ord0 ?_
       refine on_ (i := 1) (N := some 13) HT_ rfl rfl (by kernel_rfl) (by decide) (fun K hK => ?_)
       refine goM gf135 #[.agg #[.string ((rd_T100 l0 x7_1).f0), .string ((rd_T100 l0 x7_1).f1)]] (by rfl) rfl rfl rfl ?_
       with_reducible refine (impl_entryOk.calls k1 ((rd_T100 l0 x7_1).f0) ((rd_T100 l0 x7_1).f1) true _ A5.out).mono ?_
       rintro e w16 ⟨rfl, hb⟩
       refine ⟨_, rfl, ?_⟩
       replace BK102 := kb BK102 hb
       replace HB := kB HB hb
       (try clear hb)
       (try clear hb2)
       (try clear hk)
       (try clear hi)
       refine hK.out _ _ ⟨(blk_cell BK102.out 0).trans rfl, (blk_cell BK102.out 1).trans rfl, (pz HB.out hw104_0), (pz HB.out hw104_1)⟩ (fun hHeld => ?_)
       clear hK K
       refine norm_ (a' := ?_) ?_ ?_
       rotate_left
       ·show Act.put _ (some 13) _ = _
        simp only [Act.put, List.setIfInBounds_toArray, List.set_cons_zero, List.set_cons_succ, i64_w, i32_w]
        rfl
       refine ord_ [.p 2 14, .p 3 15, .p 4 16, .p 5 17, .p 6 18, .p 7 19, .p 8 20, .p 9 21, .p 10 22, .p 11 23, .p 13 25, .t 12 24, .t 14 26, .p 15 27, .p 16 28, .p 17 29] ?_
       repeat (first | (refine pu_ (v := ?_) (a' := ?_) HT_ rfl rfl (by kernel_rfl) (fun _ _ _ h => h) (by rfl) ?_ ?_ ?_; rotate_left 2; (intro w'; go_simp; with_reducible rfl); (simp only [Act.put, List.setIfInBounds_toArray, List.set_cons_zero, List.set_cons_succ, i64_w, i32_w]; rfl)) | (refine ta_ (v := ?_) (a' := ?_) HT_ HW_ rfl rfl (by kernel_rfl) (fun _ _ _ h => h) (by rfl) hHeld ?_ ?_ ?_; rotate_left 2; (rintro w' ⟨s0, s1, s2, s3⟩; go_simp; with_reducible rfl); (simp only [Act.put, List.setIfInBounds_toArray, List.set_cons_zero, List.set_cons_succ, i64_w, i32_w]; rfl)))
       refine ord0 ?_
       refine done_ (done_of HT_.out (by kernel_rfl)) ?_
       try go_wp2
       go_roundg k1
       case measure => have := HK1.out; omega
       case rel => exact ⟨(wrap64 (x7_1 + 1)), (by first | rfl | (simp; done) | (simp [*]; done)), H', ⟨by have := HK1.out; omega⟩, ⟨bx HB.out⟩⟩
      ·rw [if_neg c11] at H
       have c11b0 : (Op.bytesLess (((rd_T100 l0 (ji8)).f0).toList) (((rd_T100 l0 x7_1).f0).toList)) = false := by simpa using c11
       clear c11
       obtain rfl := Option.some.inj H
       have p101 := of_decide_eq_true c3b0
       have q101 := of_decide_eq_true c4b0
       obtain ⟨ad101, e101, hx101_0, hx101_1⟩ := at_T100 HR0.out x7_1 p101 q101
       cases e101
       replace hx101_0 := px HB.out hx101_0
       replace hx101_1 := px HB.out hx101_1
       replace p101 := eq_true p101
       replace q101 := eq_true q101
       try go_wp2_with (first | ((with_reducible refine gate_dst (N := 4) rfl ?_); refine box_event rfl (N := 4) rfl (cs := #[.string (⟨#[]⟩ : ByteArray), .string (⟨#[]⟩ : ByteArray)]) (t := 100) (by go_simp <;> rfl) ?_; intro gb102 hg w17 hbox hb; have BK102 := Aside0.mk (hbox); have GW102 := Le_.mk (ge_of hg HB.out); have GE102 := Le_.mk (ge_of hg HB.out); replace HB := kB HB hb; clear hb hbox hg; have hz18 := cells_2 BK102.out))
       have n0_ : Aside0 (((w17.setCell ⟨gb102, 0, none⟩ (.string ((rd_T100 l0 x7_1).f0))).setCell ⟨gb102, 1, none⟩ (.string ((rd_T100 l0 x7_1).f1))).heap[gb102]? = some (.cells #[.string ((rd_T100 l0 x7_1).f0), .string ((rd_T100 l0 x7_1).f1)] 100 (0, 0))) := ⟨cl BK102.out rfl⟩
       have n1_ : Aside0 (Below w.heap.size w ((w17.setCell ⟨gb102, 0, none⟩ (.string ((rd_T100 l0 x7_1).f0))).setCell ⟨gb102, 1, none⟩ (.string ((rd_T100 l0 x7_1).f1)))) := ⟨bx HB.out⟩
       (try clear BK102)
       (try clear HB)
       generalize ((w17.setCell ⟨gb102, 0, none⟩ (.string ((rd_T100 l0 x7_1).f0))).setCell ⟨gb102, 1, none⟩ (.string ((rd_T100 l0 x7_1).f1))) = w19 at n0_ n1_ ⊢
       have BK102 := n0_
       have HB := n1_
       clear n0_ n1_
       replace BK102 := Aside0.mk (blk_drew BK102.out)
       replace HB := Aside0.mk (below_drew1 HB.out)
       have p104 := of_decide_eq_true c9b0
       have q104 := of_decide_eq_true c10b0
       obtain ⟨ad104, e104, hx104_0, hx104_1⟩ := at_T100 HR0.out (ji8) p104 q104
       have hw104_1 := hx104_1
       have hw104_0 := hx104_0
       obtain rfl : ad101 = ad104 := (by injection e104)
       replace hx104_0 := px HB.out hx104_0
       replace hx104_1 := px HB.out hx104_1
       replace p104 := eq_true p104
       replace q104 := eq_true q104
       refine start_ (n := 18) (S := fun w' => w'.cell? ⟨gb102, 0, none⟩ = some (.string ((rd_T100 l0 x7_1).f0)) ∧ w'.cell? ⟨gb102, 1, none⟩ = some (.string ((rd_T100 l0 x7_1).f1)) ∧ w'.cell? (ad101.add (((ji8)).toNat * 2)) = some (.string ((rd_T100 l0 (ji8)).f0)) ∧ w'.cell? ⟨(ad101.add (((ji8)).toNat * 2)).block, (ad101.add (((ji8)).toNat * 2)).off + 1, none⟩ = some (.string ((rd_T100 l0 (ji8)).f1))) (ds := []) _ (by kernel_rfl) rfl rfl ⟨(blk_cell BK102.out 0).trans rfl, (blk_cell BK102.out 1).trans rfl, (px HB.out hw104_0), (px HB.out hw104_1)⟩ (fun hHeld => ?_); refine with_tabW impl_entriesOk.tab4 impl_entriesOk.bits4 (fun HT_ HW_ => ?_)
       generalize w19.drew = w20 at BK102 HB hx104_0 hx104_1 hHeld ⊢
       refine ord_ [.t 0 12] ?_
       repeat (refine ta_ (v := ?_) (a' := ?_) HT_ HW_ rfl rfl (by kernel_rfl) (fun _ _ _ h => h) (by rfl) hHeld ?_ ?_ ?_; rotate_left 2; (rintro w' ⟨s0, s1, s2, s3⟩; go_simp; with_reducible rfl); (simp only [Act.put, List.setIfInBounds_toArray, List.set_cons_zero, List.set_cons_succ, i64_w, i32_w]; rfl))
       refine ord0 ?_
       refine on_ (i := 1) (N := some 13) HT_ rfl rfl (by kernel_rfl) (by decide) (fun K hK => ?_)
       refine goM gf135 #[.agg #[.string ((rd_T100 l0 x7_1).f0), .string ((rd_T100 l0 x7_1).f1)]] (by rfl) rfl rfl rfl ?_
       with_reducible refine (impl_entryOk.calls k1 ((rd_T100 l0 x7_1).f0) ((rd_T100 l0 x7_1).f1) true _ A5.out).mono ?_
       rintro e w21 ⟨rfl, hb⟩
       refine ⟨_, rfl, ?_⟩
       replace BK102 := kb BK102 hb
       replace HB := kB HB hb
       (try clear hb)
       (try clear hb2)
       (try clear hk)
       (try clear hi)
       refine hK.out _ _ ⟨(blk_cell BK102.out 0).trans rfl, (blk_cell BK102.out 1).trans rfl, (pz HB.out hw104_0), (pz HB.out hw104_1)⟩ (fun hHeld => ?_)
       clear hK K
       refine norm_ (a' := ?_) ?_ ?_
       rotate_left
       ·show Act.put _ (some 13) _ = _
        simp only [Act.put, List.setIfInBounds_toArray, List.set_cons_zero, List.set_cons_succ, i64_w, i32_w]
        rfl
       refine ord_ [.p 2 14, .p 3 15, .p 4 16, .p 5 17, .p 6 18, .p 7 19, .p 8 20, .p 9 21, .p 10 22, .p 11 23, .p 13 25, .t 12 24, .t 14 26, .p 15 27, .p 16 28, .p 17 29] ?_
       repeat (first | (refine pu_ (v := ?_) (a' := ?_) HT_ rfl rfl (by kernel_rfl) (fun _ _ _ h => h) (by rfl) ?_ ?_ ?_; rotate_left 2; (intro w'; go_simp; with_reducible rfl); (simp only [Act.put, List.setIfInBounds_toArray, List.set_cons_zero, List.set_cons_succ, i64_w, i32_w]; rfl)) | (refine ta_ (v := ?_) (a' := ?_) HT_ HW_ rfl rfl (by kernel_rfl) (fun _ _ _ h => h) (by rfl) hHeld ?_ ?_ ?_; rotate_left 2; (rintro w' ⟨s0, s1, s2, s3⟩; go_simp; with_reducible rfl); (simp only [Act.put, List.setIfInBounds_toArray, List.set_cons_zero, List.set_cons_succ, i64_w, i32_w]; rfl)))
       refine ord0 ?_
       refine done_ (done_of HT_.out (by kernel_rfl)) ?_
       try go_wp2
       go_ret
       exact ⟨by first | rfl | (simp [errW_none, errW_some] <;> rfl) | (simp only [← hji8]; first | rfl | (simp [errW_none, errW_some] <;> rfl)) | (simp [*, errW_none, errW_some] <;> rfl), bx HB.out⟩
     ·rw [if_neg c7] at H
      have c7b0 : decide (0 < x7_1) = false := decide_eq_false c7
      clear c7
      have H' := Aside0.mk H
      clear H
      have p101 := of_decide_eq_true c3b0
      have q101 := of_decide_eq_true c4b0
      obtain ⟨ad101, e101, hx101_0, hx101_1⟩ := at_T100 HR0.out x7_1 p101 q101
      cases e101
      replace hx101_0 := px HB.out hx101_0
      replace hx101_1 := px HB.out hx101_1
      replace p101 := eq_true p101
      replace q101 := eq_true q101
      try go_wp2_with (first | ((with_reducible refine gate_dst (N := 4) rfl ?_); refine box_event rfl (N := 4) rfl (cs := #[.string (⟨#[]⟩ : ByteArray), .string (⟨#[]⟩ : ByteArray)]) (t := 100) (by go_simp <;> rfl) ?_; intro gb102 hg w22 hbox hb; have BK102 := Aside0.mk (hbox); have GW102 := Le_.mk (ge_of hg HB.out); have GE102 := Le_.mk (ge_of hg HB.out); replace HB := kB HB hb; clear hb hbox hg; have hz23 := cells_2 BK102.out))
      have n0_ : Aside0 (((w22.setCell ⟨gb102, 0, none⟩ (.string ((rd_T100 l0 x7_1).f0))).setCell ⟨gb102, 1, none⟩ (.string ((rd_T100 l0 x7_1).f1))).heap[gb102]? = some (.cells #[.string ((rd_T100 l0 x7_1).f0), .string ((rd_T100 l0 x7_1).f1)] 100 (0, 0))) := ⟨cl BK102.out rfl⟩
      have n1_ : Aside0 (Below w.heap.size w ((w22.setCell ⟨gb102, 0, none⟩ (.string ((rd_T100 l0 x7_1).f0))).setCell ⟨gb102, 1, none⟩ (.string ((rd_T100 l0 x7_1).f1)))) := ⟨bx HB.out⟩
      (try clear BK102)
      (try clear HB)
      generalize ((w22.setCell ⟨gb102, 0, none⟩ (.string ((rd_T100 l0 x7_1).f0))).setCell ⟨gb102, 1, none⟩ (.string ((rd_T100 l0 x7_1).f1))) = w24 at n0_ n1_ ⊢
      have BK102 := n0_
      have HB := n1_
      clear n0_ n1_
      replace BK102 := Aside0.mk (blk_drew BK102.out)
      replace HB := Aside0.mk (below_drew1 HB.out)
      refine start_ (n := 18) (S := fun w' => w'.cell? ⟨gb102, 0, none⟩ = some (.string ((rd_T100 l0 x7_1).f0)) ∧ w'.cell? ⟨gb102, 1, none⟩ = some (.string ((rd_T100 l0 x7_1).f1))) (ds := []) _ (by kernel_rfl) rfl rfl ⟨(blk_cell BK102.out 0).trans rfl, (blk_cell BK102.out 1).trans rfl⟩ (fun hHeld => ?_); refine with_tabW impl_entriesOk.tab4 impl_entriesOk.bits4 (fun HT_ HW_ => ?_)
      generalize w24.drew = w25 at BK102 HB hHeld ⊢
      refine ord_ [.t 0 12] ?_
      repeat (refine ta_ (v := ?_) (a' := ?_) HT_ HW_ rfl rfl (by kernel_rfl) (fun _ _ _ h => h) (by rfl) hHeld ?_ ?_ ?_; rotate_left 2; (rintro w' ⟨s0, s1⟩; go_simp; with_reducible rfl); (simp only [Act.put, List.setIfInBounds_toArray, List.set_cons_zero, List.set_cons_succ, i64_w, i32_w]; rfl))
      refine ord0 ?_
      refine on_ (i := 1) (N := some 13) HT_ rfl rfl (by kernel_rfl) (by decide) (fun K hK => ?_)
      refine goM gf135 #[.agg #[.string ((rd_T100 l0 x7_1).f0), .string ((rd_T100 l0 x7_1).f1)]] (by rfl) rfl rfl rfl ?_
      with_reducible refine (impl_entryOk.calls k1 ((rd_T100 l0 x7_1).f0) ((rd_T100 l0 x7_1).f1) true _ A5.out).mono ?_
      rintro e w26 ⟨rfl, hb⟩
      refine ⟨_, rfl, ?_⟩
      replace BK102 := kb BK102 hb
      replace HB := kB HB hb
      (try clear hb)
      (try clear hb2)
      (try clear hk)
      (try clear hi)
      refine hK.out _ _ ⟨(blk_cell BK102.out 0).trans rfl, (blk_cell BK102.out 1).trans rfl⟩ (fun hHeld => ?_)
      clear hK K
      refine norm_ (a' := ?_) ?_ ?_
      rotate_left
      ·show Act.put _ (some 13) _ = _
       simp only [Act.put, List.setIfInBounds_toArray, List.set_cons_zero, List.set_cons_succ, i64_w, i32_w]
       rfl
      refine ord_ [.p 2 14, .p 3 15, .p 4 16, .p 5 17, .p 6 18, .u 7 19, .u 8 20, .u 9 21, .u 10 22, .u 11 23, .u 12 24, .u 13 25, .u 14 26, .u 15 27, .p 16 28, .p 17 29] ?_
      repeat (first | (refine pu_ (v := ?_) (a' := ?_) HT_ rfl rfl (by kernel_rfl) (fun _ _ _ h => h) (by rfl) ?_ ?_ ?_; rotate_left 2; (intro w'; go_simp; with_reducible rfl); (simp only [Act.put, List.setIfInBounds_toArray, List.set_cons_zero, List.set_cons_succ, i64_w, i32_w]; rfl)) | (refine un_ (a' := ?_) HT_ rfl rfl (by kernel_rfl) (fun _ _ _ h => h) (by rfl) ?_ ?_; rotate_left; (simp only [Act.put, List.setIfInBounds_toArray, List.set_cons_zero, List.set_cons_succ, i64_w, i32_w]; rfl)))
      refine ord0 ?_
      refine done_ (done_of HT_.out (by kernel_rfl)) ?_
      try go_wp2
      go_roundg k1
      case measure => have := HK1.out; omega
      case rel => exact ⟨(wrap64 (x7_1 + 1)), (by first | rfl | (simp; done) | (simp [*]; done)), H', ⟨by have := HK1.out; omega⟩, ⟨bx HB.out⟩⟩
    ·replace c6 := Bool.eq_false_iff.mpr c6
     subst c6
     rw [if_neg Bool.false_ne_true] at H
     obtain rfl := Option.some.inj H
     have p101 := of_decide_eq_true c3b0
     have q101 := of_decide_eq_true c4b0
     obtain ⟨ad101, e101, hx101_0, hx101_1⟩ := at_T100 HR0.out x7_1 p101 q101
     cases e101
     replace hx101_0 := px HB.out hx101_0
     replace hx101_1 := px HB.out hx101_1
     replace p101 := eq_true p101
     replace q101 := eq_true q101
     try go_wp2_with (first | ((with_reducible refine gate_dst (N := 4) rfl ?_); refine box_event rfl (N := 4) rfl (cs := #[.string (⟨#[]⟩ : ByteArray), .string (⟨#[]⟩ : ByteArray)]) (t := 100) (by go_simp <;> rfl) ?_; intro gb102 hg w27 hbox hb; have BK102 := Aside0.mk (hbox); have GW102 := Le_.mk (ge_of hg HB.out); have GE102 := Le_.mk (ge_of hg HB.out); replace HB := kB HB hb; clear hb hbox hg; have hz28 := cells_2 BK102.out))
     have n0_ : Aside0 (((w27.setCell ⟨gb102, 0, none⟩ (.string ((rd_T100 l0 x7_1).f0))).setCell ⟨gb102, 1, none⟩ (.string ((rd_T100 l0 x7_1).f1))).heap[gb102]? = some (.cells #[.string ((rd_T100 l0 x7_1).f0), .string ((rd_T100 l0 x7_1).f1)] 100 (0, 0))) := ⟨cl BK102.out rfl⟩
     have n1_ : Aside0 (Below w.heap.size w ((w27.setCell ⟨gb102, 0, none⟩ (.string ((rd_T100 l0 x7_1).f0))).setCell ⟨gb102, 1, none⟩ (.string ((rd_T100 l0 x7_1).f1)))) := ⟨bx HB.out⟩
     (try clear BK102)
     (try clear HB)
     generalize ((w27.setCell ⟨gb102, 0, none⟩ (.string ((rd_T100 l0 x7_1).f0))).setCell ⟨gb102, 1, none⟩ (.string ((rd_T100 l0 x7_1).f1))) = w29 at n0_ n1_ ⊢
     have BK102 := n0_
     have HB := n1_
     clear n0_ n1_
     replace BK102 := Aside0.mk (blk_drew BK102.out)
     replace HB := Aside0.mk (below_drew1 HB.out)
     refine start_ (n := 18) (S := fun w' => w'.cell? ⟨gb102, 0, none⟩ = some (.string ((rd_T100 l0 x7_1).f0)) ∧ w'.cell? ⟨gb102, 1, none⟩ = some (.string ((rd_T100 l0 x7_1).f1))) (ds := []) _ (by kernel_rfl) rfl rfl ⟨(blk_cell BK102.out 0).trans rfl, (blk_cell BK102.out 1).trans rfl⟩ (fun hHeld => ?_); refine with_tabW impl_entriesOk.tab4 impl_entriesOk.bits4 (fun HT_ HW_ => ?_)
     generalize w29.drew = w30 at BK102 HB hHeld ⊢
     refine ord_ [.t 0 12] ?_
     repeat (refine ta_ (v := ?_) (a' := ?_) HT_ HW_ rfl rfl (by kernel_rfl) (fun _ _ _ h => h) (by rfl) hHeld ?_ ?_ ?_; rotate_left 2; (rintro w' ⟨s0, s1⟩; go_simp; with_reducible rfl); (simp only [Act.put, List.setIfInBounds_toArray, List.set_cons_zero, List.set_cons_succ, i64_w, i32_w]; rfl))
     refine ord0 ?_
     refine on_ (i := 1) (N := some 13) HT_ rfl rfl (by kernel_rfl) (by decide) (fun K hK => ?_)
     refine goM gf135 #[.agg #[.string ((rd_T100 l0 x7_1).f0), .string ((rd_T100 l0 x7_1).f1)]] (by rfl) rfl rfl rfl ?_
     with_reducible refine (impl_entryOk.calls k1 ((rd_T100 l0 x7_1).f0) ((rd_T100 l0 x7_1).f1) false _ A5.out).mono ?_
     rintro e w31 ⟨rfl, hb⟩
     refine ⟨_, rfl, ?_⟩
     replace BK102 := kb BK102 hb
     replace HB := kB HB hb
     (try clear hb)
     (try clear hb2)
     (try clear hk)
     (try clear hi)
     refine hK.out _ _ ⟨(blk_cell BK102.out 0).trans rfl, (blk_cell BK102.out 1).trans rfl⟩ (fun hHeld => ?_)
     clear hK K
     refine norm_ (a' := ?_) ?_ ?_
     rotate_left
     ·show Act.put _ (some 13) _ = _
      simp only [Act.put, List.setIfInBounds_toArray, List.set_cons_zero, List.set_cons_succ, i64_w, i32_w]
      rfl
     refine ord_ [.p 2 14, .p 3 15, .u 4 16, .u 5 17, .u 6 18, .u 7 19, .u 8 20, .u 9 21, .u 10 22, .u 11 23, .u 12 24, .u 13 25, .u 14 26, .u 15 27, .u 16 28, .p 17 29] ?_
     repeat (first | (refine pu_ (v := ?_) (a' := ?_) HT_ rfl rfl (by kernel_rfl) (fun _ _ _ h => h) (by rfl) ?_ ?_ ?_; rotate_left 2; (intro w'; go_simp; with_reducible rfl); (simp only [Act.put, List.setIfInBounds_toArray, List.set_cons_zero, List.set_cons_succ, i64_w, i32_w]; rfl)) | (refine un_ (a' := ?_) HT_ rfl rfl (by kernel_rfl) (fun _ _ _ h => h) (by rfl) ?_ ?_; rotate_left; (simp only [Act.put, List.setIfInBounds_toArray, List.set_cons_zero, List.set_cons_succ, i64_w, i32_w]; rfl)))
     refine ord0 ?_
     refine done_ (done_of HT_.out (by kernel_rfl)) ?_
     try go_wp2
     go_ret
     exact ⟨by rfl, bx HB.out⟩
   ·rw [if_neg c2] at H
    have c2b0 := decide_eq_false c2
    clear c2
    obtain rfl := Option.some.inj H
    go_wp2
    go_ret
    exact ⟨by rfl, bx HB.out⟩
end Go.Proofs.YtaakfmpffhfaeaaGreatDoor.M
end

section
/-
 DERIVED: THE SHELF's CONTRACTS AT THIS DUMP, IN PLAIN WORDS (tools/lay-plain.mjs out of 'TryzEShelf.lean', which tools/lay-shelf.mjs wrote): THE SAME DECLARATIONS UNDER THE SAME NAMES: 'import', 'namespace', 'open', 'def', 'theorem' AND NOTHING ELSE: no command of the shelf's: FOR A HAND-IN. Each laying: the table of numbers ('.._ren') and one theorem, a field a fact of the dump's own or the kernel's comparison; each contract: ONE APPLICATION.
-/
namespace Go.Proofs
open Go.Shelf
def Tryz.laysIdx_ren : Go.Shelf.Ren := ⟨fun | 6 => 136 | n => n, fun | 22 => 31 | 23 => 100 | 25 => 109 | 3 => 3 | 0 => 0 | 4 => 4 | n => n, fun | n => n⟩
theorem Tryz.laysIdx : Go.Proofs.SlLaysH0.n6 Tryz.prog Tryz.laysIdx_ren := {
 mixed := by kernel_rfl
 f6 := ⟨Tryz.f136.name, by decide, Tryz.func136.trans (congrArg some (by kernel_rfl))⟩
 t0 := Tryz.underlying0
 a0 := Tryz.isAgg0
 z0 := Tryz.sizeOf0
 v0 := Tryz.zeroValue0
 t3 := Tryz.underlying3
 a3 := Tryz.isAgg3
 z3 := Tryz.sizeOf3
 v3 := Tryz.zeroValue3
 t4 := Tryz.underlying4
 a4 := Tryz.isAgg4
 z4 := Tryz.sizeOf4
 v4 := Tryz.zeroValue4
 t22 := Tryz.underlying31
 a22 := Tryz.isAgg31
 z22 := Tryz.sizeOf31
 v22 := Tryz.zeroValue31
 t25 := Tryz.underlying109
 a25 := Tryz.isAgg109
 z25 := Tryz.sizeOf109
 v25 := Tryz.zeroValue109 }
end Go.Proofs
end

section
/- Where a row that is read lies. -/
namespace Go.Proofs.YtaakfmpffhfaeaaGreatDoor.M
open Go.RowKit Go.Proofs.YtaakfmpffhfaeaaGreatDoorW.PrintWords
theorem C_form {α : Type} {d : Kd α} {w : World} {A : Option Addr} {n : Nat} {xs : List α} (h : Kd.C d w A n xs) (hn : 0 < n) (hs : 0 < d.sz) :
  ∃ b off, A = some ⟨b, off, none⟩ ∧ b < w.heap.size ∧ ∀ j p, xs[j]? = some p → ∃ c, c.length = d.sz ∧ d.K w p c ∧ ∀ i u, c[i]? = some u → w.cell? ⟨b, off + (j * d.sz + i), none⟩ = some u := by
 obtain ⟨hl, _, hr⟩ := h
 obtain ⟨⟨b, off, sp⟩, rfl, hc⟩ := hr hn
 have hx : ∃ p, xs[0]? = some p := ⟨xs[0]'(by omega), List.getElem?_eq_getElem (by omega)⟩
 obtain ⟨p, hp⟩ := hx
 obtain ⟨c, hcl, hK, hcell⟩ := hc 0 p hp
 obtain ⟨u, hu⟩ : ∃ u, c[0]? = some u := ⟨c[0]'(by omega), List.getElem?_eq_getElem (by omega)⟩
 have h0 := hcell 0 u hu
 have hz : (⟨b, off, sp⟩ : Addr).add (0 * d.sz + 0) = ⟨b, off, sp⟩ := by simp [Addr.add]
 rw [hz] at h0
 have hb := World.block_lt_of_cell? w _ h0
 have hsp : sp = none := by
  unfold World.cell? at h0
  cases sp with
  | none => rfl
  | some s =>
   simp only [Option.isSome_some, if_true] at h0
   split at h0 <;> cases h0
 subst hsp
 refine ⟨b, off, rfl, hb, fun j p hj => ?_⟩
 obtain ⟨c, h1, h2, h3⟩ := hc j p hj
 refine ⟨c, h1, h2, fun i u hi => ?_⟩
 have h4 := h3 i u hi
 rwa [Addr.add_lit] at h4
end Go.Proofs.YtaakfmpffhfaeaaGreatDoor.M
end

section
/- impl.entryAt, walked by hand: slices.IndexFunc with a closure that has captured a text. -/
namespace Go.Proofs.YtaakfmpffhfaeaaGreatDoor.M
open Go.RowKit Go.Proofs.YtaakfmpffhfaeaaGreatDoorW.PrintWords Go.Proofs.YtaakfmpffhfaeaaGreatDoor.Sq
set_option linter.unusedVariables false
set_option linter.unusedSimpArgs false
instance : Inhabited S100 := ⟨z100⟩
def encE (x : S100) : List Value := [.string x.f0, .string x.f1]
theorem entry_pred (s : ByteArray) (B : Nat) (w : World) (hB : B < w.heap.size) (hcell : w.cell? ⟨B, 0, none⟩ = some (.string s)) :
  PredBelow Tryz.prog 137 #[.pointer (some ⟨B, 0, none⟩)] (fun x => .agg (encE x).toArray) (fun x => x.f0.toList == s.toList) w := fun W x hb => by
 have hc : W.cell? ⟨B, 0, none⟩ = some (.string s) := (hb.cell (p := ⟨B, 0, none⟩) hB).trans hcell
 have hBW : B < W.heap.size := Nat.lt_of_lt_of_le hB hb.size
 have hne : B ≠ W.heap.size := by omega
 show Calls Tryz.prog 137 #[.agg #[.string x.f0, .string x.f1], .pointer (some ⟨B, 0, none⟩)] W _
 go_enter Tryz.func137, Tryz.ntmps137
 go_wp2
 go_ret
 exact ⟨rfl, hb.alloc hb.size _⟩
theorem index_empty (a : Option Addr) (c : Nat) (fv : Value) (w : World) :
  Calls Tryz.prog 136 #[.slice a 0 c, fv] w fun e w' => e = .returned (.int .i64 (-1)) ∧ w' = w := by
 go_enter Tryz.func136, Tryz.ntmps136
 go_wp2
 go_loopg [5, 8] 0 (fun _ _ s8 wr => s8 = .int .i64 0 ∧ wr = w)
 case atStart => exact ⟨rfl, rfl⟩
 case round =>
  obtain ⟨rfl, rfl⟩ := hrel
  go_wp2
  go_ret
  exact ⟨rfl, rfl⟩
def idxE (l : List S100) (s : ByteArray) : Int := Lib.idxBy (fun _ y => y.f0.toList == s.toList) l default
set_option maxHeartbeats 4000000 in
theorem entryAt_calls (A0 : Option Addr) (c0 : Nat) (l0 : List S100) (a1 : ByteArray) (w : World) (hr0 : Kd.C k100 w A0 l0.length l0) :
  Calls Tryz.prog 103 #[.slice A0 l0.length c0, .string a1] w fun e w' => e = .returned (.int .i64 (idxE l0 a1)) ∧ Below w.heap.size w w' := by
 have hcon : Calls Tryz.prog 136 #[.slice A0 l0.length c0, .func (.func 137) #[] #[.pointer (some ⟨w.heap.size, 0, none⟩)]] (w.alloc (.cells #[.string a1] 9)) fun e w' => e = .returned (.int .i64 (idxE l0 a1)) ∧ Below (w.alloc (.cells #[.string a1] 9)).heap.size (w.alloc (.cells #[.string a1] 9)) w' := by
  have hlen := hr0.2.1
  rcases Nat.eq_zero_or_pos l0.length with h0 | h0
  ·obtain rfl : l0 = [] := List.eq_nil_of_length_eq_zero h0
   exact (index_empty A0 c0 _ _).mono fun e w' ⟨he, hw⟩ => ⟨he, hw ▸ Below.refl _ _⟩
  ·obtain ⟨b, off, rfl, hb, hc⟩ := C_form hr0 h0 (by show 0 < 2; omega)
   have eg : ∀ args w, (callFunc 137 args).run Tryz.prog w = .ok (.enter 137 args) w := enters_of Tryz.func137 (by kernel_rfl) rfl
   have h := AnyQ.slices_IndexFunc Tryz.laysIdx 2 Tryz.isAgg100 Tryz.sizeOf100 encE (fun _ => rfl) (fun x => x.f0.toList == a1.toList) 137 #[.pointer (some ⟨w.heap.size, 0, none⟩)] eg b off l0.length c0 l0 (w.alloc (.cells #[.string a1] 9))
    (entry_pred a1 w.heap.size _ (by simp) (by simp)) (Nat.le_refl _) hlen (by simp; omega) (fun j hj i v hi => by
     refine Lib.cell?_alloc_some _ ?_
     have hg : l0[j]? = some l0[j]! := by rw [List.getElem?_eq_getElem hj, List.getElem!_eq_getElem?_getD, List.getElem?_eq_getElem hj]; rfl
     obtain ⟨c, hcl, hK, hcell⟩ := hc j _ hg
     obtain rfl := k100_open hK
     have := hcell i v hi
     rwa [← Nat.add_assoc] at this)
   rw [List.take_length] at h
   exact h
 unfold idxE at hcon ⊢
 generalize Lib.idxBy (fun _ y => y.f0.toList == a1.toList) l0 default = r at hcon ⊢
 go_enter Tryz.func103, Tryz.ntmps103
 go_wp2_with (go_at_call 136; refine hcon.mono ?_; rintro e w' ⟨rfl, hb'⟩)
 go_ret
 exact ⟨rfl, ((Below.refl _ w).alloc (Nat.le_refl _) _).trans (hb'.mono (by simp))⟩
end Go.Proofs.YtaakfmpffhfaeaaGreatDoor.M
end

section
namespace Go.Proofs.YtaakfmpffhfaeaaGreatDoor.M
open Go.RowKit Go.Proofs.YtaakfmpffhfaeaaGreatDoorW.PrintWords Go.Proofs.YtaakfmpffhfaeaaGreatDoorW.PrintLast Go.Proofs.YtaakfmpffhfaeaaGreatDoorW.PrintMore Go.Proofs.YtaakfmpffhfaeaaGreatDoor.Sq
set_option synthInstance.maxHeartbeats 2000000
set_option synthInstance.maxSize 4096
attribute [local go_sem] max2_int min2_int max_two min_two max_three min_three max_four min_four
set_option linter.unusedVariables false
set_option linter.unusedSimpArgs false
set_option maxHeartbeats 8000000
set_option maxRecDepth 100000
theorem gf103 : Go_ Tryz.prog 103 Tryz.f103 := ⟨Tryz.func103, by kernel_rfl, rfl⟩
def impl_entryAt.f (l0 : List S100) (a1 : ByteArray) : Option (Int) := some (idxE l0 a1)
theorem impl_entryAt.calls (A0 : Option Addr) (c0 : Nat) (l0 : List S100) (a1 : ByteArray) (r : Int) (w : World) (hr0 : Kd.C k100 w A0 l0.length l0) (hc0 : l0.length ≤ c0) (h : impl_entryAt.f l0 a1 = some r) :
  Calls Tryz.prog 103 #[.slice A0 l0.length c0, .string a1] w fun e w' => e = .returned (.int .i64 r) ∧ Below w.heap.size w w' := by
 obtain rfl := Option.some.inj h
 exact entryAt_calls A0 c0 l0 a1 w hr0
theorem gf114 : Go_ Tryz.prog 114 Tryz.f114 := ⟨Tryz.func114, by kernel_rfl, rfl⟩
def impl_wordsOk.l0 : Nat → List ByteArray → Int → List ByteArray → Int → Int → Option (Bool)
 | 0, _, _, _, _, _ => none
 | k + 1, x0, x1, x7, x8, x9 => if x9 < x8 then (if 0 ≤ x9 then (if x9 < (x7.length : Int) then ((impl_WordOk.f k (rdOf ByteArray.empty x7 x9)).bind fun t102 => (if t102 = true then (if x9 > 0 then (if 0 ≤ (wrap64 (x9 - 1)) then (if (wrap64 (x9 - 1)) < (x0.length : Int) then (if ((Op.bytesLess ((rdOf ByteArray.empty x0 (wrap64 (x9 - 1))).toList) ((rdOf ByteArray.empty x7 x9).toList)) = true) then (impl_wordsOk.l0 k x0 x1 x7 x8 (wrap64 (x9 + 1))) else (some false)) else (none)) else (none)) else (impl_wordsOk.l0 k x0 x1 x7 x8 (wrap64 (x9 + 1)))) else (some false))) else (none)) else (none)) else (some (decide ((x0.length : Int) ≤ x1)))
def impl_wordsOk.f (k : Nat) (l0 : List ByteArray) (a1 : Int) : Option (Bool) := impl_wordsOk.l0 k l0 a1 l0 (l0.length : Int) 0
theorem impl_wordsOk.mono_l : ∀ k, (∀ y0 y1 y2 y3 y4, LeO (impl_wordsOk.l0 k y0 y1 y2 y3 y4) (impl_wordsOk.l0 (k + 1) y0 y1 y2 y3 y4))
 | 0 => fun _ _ _ _ _ r h => by simp [impl_wordsOk.l0] at h
 | k + 1 => by
  have ih0 := impl_wordsOk.mono_l k
  ·intro y0 y1 y2 y3 y4
   unfold impl_wordsOk.l0
   have I0_ := fun a b c d e => LeC.mk (ih0 a b c d e)
   have I1_ := fun a b => LeC.mk (impl_WordOk.mono a b)
   exact LeC.out
theorem impl_wordsOk.mono : ∀ a0 a1 k, LeO (impl_wordsOk.f k a0 a1) (impl_wordsOk.f (k + 1) a0 a1) := by
 intro a0 a1 k
 have ih0 := impl_wordsOk.mono_l k
 unfold impl_wordsOk.f
 have I0_ := fun a b c d e => LeC.mk (ih0 a b c d e)
 have I1_ := fun a b => LeC.mk (impl_WordOk.mono a b)
 exact LeC.out
theorem impl_wordsOk.calls (k : Nat) (A0 : Option Addr) (c0 : Nat) (l0 : List ByteArray) (a1 : Int) (r : Bool) (w : World) (hr0 : Kd.C Kd.string w A0 l0.length l0) (hc0 : l0.length ≤ c0) (h : impl_wordsOk.f k l0 a1 = some r) :
  Calls Tryz.prog 114 #[.slice A0 l0.length c0, .int .i64 a1] w fun e w' => e = .returned (.bool r) ∧ Drawn0 w w' := by
 have HR0 := Aside0.mk hr0
 have HC0 := Aside0.mk hc0
 clear hr0 hc0
 unfold impl_wordsOk.f at h
 have H := h
 clear h
 have H' := Aside0.mk H
 clear H
 go_enter Tryz.func114, Tryz.ntmps114
 go_wp2
 go_loopg [9] k (fun kq v9 w' => ∃ (x9_1 : Int), v9 = .int .i64 x9_1 ∧ Aside0 (impl_wordsOk.l0 kq l0 a1 l0 (l0.length : Int) x9_1 = some r) ∧ Aside0 (kq ≤ k) ∧ Drawn0 w w')
 case atStart => exact ⟨(0), (by first | rfl | (simp; done) | (simp [*]; done)), H', ⟨Nat.le_refl _⟩, by repeat (first | exact Drawn0.refl _ | apply Drawn0.step)⟩
 case round =>
  clear H'
  try clear c1
  try clear p2
  obtain ⟨x9_1, rfl, HA, HK1, ⟨m1, rfl⟩⟩ := hrel
  cases gk with
  | zero => exact absurd HA.out (by simp [impl_wordsOk.l0])
  | succ k1 =>
   have H := HA.out
   clear HA
   simp only [impl_wordsOk.l0] at H
   by_cases c3 : x9_1 < (l0.length : Int)
   ·rw [if_pos c3] at H
    have c3b0 := decide_eq_true c3
    clear c3
    have c4 := ite_y H
    replace H := ite_t H
    have c4b0 := decide_eq_true c4
    clear c4
    have c5 := ite_y H
    replace H := ite_t H
    have c5b0 := decide_eq_true c5
    clear c5
    replace H := Option.bind_eq_some_iff.mp H
    obtain ⟨t102, A60, H⟩ := H
    have A6 := Aside0.mk A60
    clear A60
    by_cases c7 : t102 = true
    ·subst c7
     rw [if_pos rfl] at H
     by_cases c8 : x9_1 > 0
     ·rw [if_pos c8] at H
      have c8b0 : decide (0 < x9_1) = true := decide_eq_true c8
      clear c8
      obtain ⟨ji9, hji9⟩ : ∃ j_ : Int, (wrap64 (x9_1 - 1)) = j_ := ⟨_, rfl⟩
      replace H : (if 0 ≤ (ji9) then (if (ji9) < (l0.length : Int) then (if ((Op.bytesLess ((rdOf ByteArray.empty l0 (ji9)).toList) ((rdOf ByteArray.empty l0 x9_1).toList)) = true) then (impl_wordsOk.l0 k1 l0 a1 l0 (l0.length : Int) (wrap64 (x9_1 + 1))) else (some false)) else (none)) else (none)) = some r := by first | (rw [hji9] at H; exact H) | (simp only [hji9] at H ⊢; exact H)
      (try rw [hji9] at A6)
      have hji9w : (IntKind.i64.wrap (x9_1 - 1)) = ji9 := (i64_w _).trans hji9
      have c10 := ite_y H
      replace H := ite_t H
      have c10b0 := decide_eq_true c10
      clear c10
      have c11 := ite_y H
      replace H := ite_t H
      have c11b0 := decide_eq_true c11
      clear c11
      by_cases c12 : ((Op.bytesLess ((rdOf ByteArray.empty l0 (ji9)).toList) ((rdOf ByteArray.empty l0 x9_1).toList)) = true)
      ·rw [if_pos c12] at H
       have c12b0 : (Op.bytesLess ((rdOf ByteArray.empty l0 (ji9)).toList) ((rdOf ByteArray.empty l0 x9_1).toList)) = true := c12
       clear c12
       have H' := Aside0.mk H
       clear H
       have p101 := of_decide_eq_true c4b0
       have q101 := of_decide_eq_true c5b0
       obtain ⟨ad101, e101, hx101_0⟩ := Kd.at_string HR0.out x9_1 p101 q101
       cases e101
       replace p101 := eq_true p101
       replace q101 := eq_true q101
       go_wp2_with (first | ((with_reducible refine gate_callee (f := 142) rfl ?_); refine goL (some 15) rfl rfl gf142 #[.string (rdOf ByteArray.empty l0 x9_1)] rfl rfl ?_; (with_reducible refine (impl_WordOk.calls k1 (rdOf ByteArray.empty l0 x9_1) true _ A6.out).mono ?_); rintro e w' ⟨rfl, ⟨nd, rfl⟩⟩; refine ⟨_, rfl, ?_⟩; have p103 := of_decide_eq_true c10b0; have q103 := of_decide_eq_true c11b0; obtain ⟨ad103, e103, hx103_0⟩ := Kd.at_string HR0.out (ji9) p103 q103; obtain rfl : ad101 = ad103 := (by injection e103); replace p103 := eq_true p103; replace q103 := eq_true q103))
       go_roundg k1
       case measure => have := HK1.out; omega
       case rel => exact ⟨(wrap64 (x9_1 + 1)), (by first | rfl | (simp; done) | (simp [*]; done)), H', ⟨by have := HK1.out; omega⟩, by repeat (first | exact Drawn0.refl _ | apply Drawn0.step)⟩
      ·rw [if_neg c12] at H
       have c12b0 : (Op.bytesLess ((rdOf ByteArray.empty l0 (ji9)).toList) ((rdOf ByteArray.empty l0 x9_1).toList)) = false := by simpa using c12
       clear c12
       obtain rfl := Option.some.inj H
       have p101 := of_decide_eq_true c4b0
       have q101 := of_decide_eq_true c5b0
       obtain ⟨ad101, e101, hx101_0⟩ := Kd.at_string HR0.out x9_1 p101 q101
       cases e101
       replace p101 := eq_true p101
       replace q101 := eq_true q101
       go_wp2_with (first | ((with_reducible refine gate_callee (f := 142) rfl ?_); refine goL (some 15) rfl rfl gf142 #[.string (rdOf ByteArray.empty l0 x9_1)] rfl rfl ?_; (with_reducible refine (impl_WordOk.calls k1 (rdOf ByteArray.empty l0 x9_1) true _ A6.out).mono ?_); rintro e w' ⟨rfl, ⟨nd, rfl⟩⟩; refine ⟨_, rfl, ?_⟩; have p103 := of_decide_eq_true c10b0; have q103 := of_decide_eq_true c11b0; obtain ⟨ad103, e103, hx103_0⟩ := Kd.at_string HR0.out (ji9) p103 q103; obtain rfl : ad101 = ad103 := (by injection e103); replace p103 := eq_true p103; replace q103 := eq_true q103))
       go_ret
       exact ⟨by first | rfl | (simp; done) | (simp only [← hji9] <;> (first | rfl | simp)) | (simp [*]; done), by repeat (first | exact Drawn0.refl _ | apply Drawn0.step)⟩
     ·rw [if_neg c8] at H
      have c8b0 : decide (0 < x9_1) = false := decide_eq_false c8
      clear c8
      have H' := Aside0.mk H
      clear H
      have p101 := of_decide_eq_true c4b0
      have q101 := of_decide_eq_true c5b0
      obtain ⟨ad101, e101, hx101_0⟩ := Kd.at_string HR0.out x9_1 p101 q101
      cases e101
      replace p101 := eq_true p101
      replace q101 := eq_true q101
      go_wp2_with (first | ((with_reducible refine gate_callee (f := 142) rfl ?_); refine goL (some 15) rfl rfl gf142 #[.string (rdOf ByteArray.empty l0 x9_1)] rfl rfl ?_; (with_reducible refine (impl_WordOk.calls k1 (rdOf ByteArray.empty l0 x9_1) true _ A6.out).mono ?_); rintro e w' ⟨rfl, ⟨nd, rfl⟩⟩; refine ⟨_, rfl, ?_⟩))
      go_roundg k1
      case measure => have := HK1.out; omega
      case rel => exact ⟨(wrap64 (x9_1 + 1)), (by first | rfl | (simp; done) | (simp [*]; done)), H', ⟨by have := HK1.out; omega⟩, by repeat (first | exact Drawn0.refl _ | apply Drawn0.step)⟩
    ·replace c7 := Bool.eq_false_iff.mpr c7
     subst c7
     rw [if_neg Bool.false_ne_true] at H
     obtain rfl := Option.some.inj H
     have p101 := of_decide_eq_true c4b0
     have q101 := of_decide_eq_true c5b0
     obtain ⟨ad101, e101, hx101_0⟩ := Kd.at_string HR0.out x9_1 p101 q101
     cases e101
     replace p101 := eq_true p101
     replace q101 := eq_true q101
     go_wp2_with (first | ((with_reducible refine gate_callee (f := 142) rfl ?_); refine goL (some 15) rfl rfl gf142 #[.string (rdOf ByteArray.empty l0 x9_1)] rfl rfl ?_; (with_reducible refine (impl_WordOk.calls k1 (rdOf ByteArray.empty l0 x9_1) false _ A6.out).mono ?_); rintro e w' ⟨rfl, ⟨nd, rfl⟩⟩; refine ⟨_, rfl, ?_⟩))
     go_ret
     exact ⟨by first | rfl | (simp; done) | (simp [*]; done), by repeat (first | exact Drawn0.refl _ | apply Drawn0.step)⟩
   ·rw [if_neg c3] at H
    have c3b0 := decide_eq_false c3
    clear c3
    obtain rfl := Option.some.inj H
    go_wp2
    go_ret
    exact ⟨by first | rfl | (simp; done) | (simp [*]; done), by repeat (first | exact Drawn0.refl _ | apply Drawn0.step)⟩
theorem gf69 : Go_ Tryz.prog 69 Tryz.f69 := ⟨Tryz.func69, by kernel_rfl, rfl⟩
mutual
def impl_DeltaOk.j0 : Nat → Bool → List ByteArray → List (S100) → Bool → List (S103) → Option (Bool)
 | 0, _, _, _, _, _ => none
 | k + 1, x31, x102000, x102001, x102002, x102003 => if x31 = true then (some false) else (impl_DeltaOk.l0 k x102000 (x102000.length : Int) 0 x102000 x102001 x102002 x102003)
def impl_DeltaOk.l0 : Nat → List ByteArray → Int → Int → List ByteArray → List (S100) → Bool → List (S103) → Option (Bool)
 | 0, _, _, _, _, _, _, _ => none
 | k + 1, x33, x34, x35, x102000, x102001, x102002, x102003 => if x35 < x34 then (if 0 ≤ x35 then (if x35 < (x33.length : Int) then ((impl_entryAt.f x102001 (rdOf ByteArray.empty x33 x35)).bind fun t106 => (if t106 ≥ 0 then (some false) else (impl_DeltaOk.l0 k x33 x34 (wrap64 (x35 + 1)) x102000 x102001 x102002 x102003))) else (none)) else (none)) else (some true)
end
def impl_DeltaOk.f (k : Nat) (l0_0 : List ByteArray) (l0_1 : List (S100)) (a0_2 : Bool) (l0_3 : List (S103)) : Option (Bool) := (impl_wordsOk.f k l0_0 24).bind fun t102 => (if t102 = true then ((impl_entriesOk.f k l0_1).bind fun t103 => (if t103 = true then ((impl_affixesOk.f k l0_3).bind fun t104 => (if t104 = true then (if a0_2 = true then (impl_DeltaOk.j0 k false l0_0 l0_1 a0_2 l0_3) else (impl_DeltaOk.j0 k (decide ((l0_3.length : Int) > 0)) l0_0 l0_1 a0_2 l0_3)) else (impl_DeltaOk.j0 k true l0_0 l0_1 a0_2 l0_3))) else (impl_DeltaOk.j0 k true l0_0 l0_1 a0_2 l0_3))) else (impl_DeltaOk.j0 k true l0_0 l0_1 a0_2 l0_3))
theorem impl_DeltaOk.mono_l : ∀ k, (∀ y0 y1 y2 y3 y4, LeO (impl_DeltaOk.j0 k y0 y1 y2 y3 y4) (impl_DeltaOk.j0 (k + 1) y0 y1 y2 y3 y4)) ∧ (∀ y0 y1 y2 y3 y4 y5 y6, LeO (impl_DeltaOk.l0 k y0 y1 y2 y3 y4 y5 y6) (impl_DeltaOk.l0 (k + 1) y0 y1 y2 y3 y4 y5 y6))
 | 0 => ⟨fun _ _ _ _ _ r h => by simp [impl_DeltaOk.j0] at h, fun _ _ _ _ _ _ _ r h => by simp [impl_DeltaOk.l0] at h⟩
 | k + 1 => by
  obtain ⟨ih0, ih1⟩ := impl_DeltaOk.mono_l k
  refine ⟨?_, ?_⟩
  ·intro y0 y1 y2 y3 y4
   unfold impl_DeltaOk.j0
   have I0_ := fun a b c d e => LeC.mk (ih0 a b c d e)
   have I1_ := fun a b c d e f g => LeC.mk (ih1 a b c d e f g)
   have I2_ := fun a b => LeC.mk (impl_affixesOk.mono a b)
   have I3_ := fun a b => LeC.mk (impl_entriesOk.mono a b)
   have I4_ := fun a b c => LeC.mk (impl_wordsOk.mono a b c)
   exact LeC.out
  ·intro y0 y1 y2 y3 y4 y5 y6
   unfold impl_DeltaOk.l0
   have I0_ := fun a b c d e => LeC.mk (ih0 a b c d e)
   have I1_ := fun a b c d e f g => LeC.mk (ih1 a b c d e f g)
   have I2_ := fun a b => LeC.mk (impl_affixesOk.mono a b)
   have I3_ := fun a b => LeC.mk (impl_entriesOk.mono a b)
   have I4_ := fun a b c => LeC.mk (impl_wordsOk.mono a b c)
   exact LeC.out
theorem impl_DeltaOk.mono : ∀ a0 a1 a2 a3 k, LeO (impl_DeltaOk.f k a0 a1 a2 a3) (impl_DeltaOk.f (k + 1) a0 a1 a2 a3) := by
 intro a0 a1 a2 a3 k
 obtain ⟨ih0, ih1⟩ := impl_DeltaOk.mono_l k
 unfold impl_DeltaOk.f
 have I0_ := fun a b c d e => LeC.mk (ih0 a b c d e)
 have I1_ := fun a b c d e f g => LeC.mk (ih1 a b c d e f g)
 have I2_ := fun a b => LeC.mk (impl_affixesOk.mono a b)
 have I3_ := fun a b => LeC.mk (impl_entriesOk.mono a b)
 have I4_ := fun a b c => LeC.mk (impl_wordsOk.mono a b c)
 exact LeC.out
theorem impl_DeltaOk.calls (k : Nat) (A0_0 : Option Addr) (c0_0 : Nat) (l0_0 : List ByteArray) (A0_1 : Option Addr) (c0_1 : Nat) (l0_1 : List (S100)) (a0_2 : Bool) (A0_3 : Option Addr) (c0_3 : Nat) (l0_3 : List (S103)) (r : Bool) (w : World) (hr0_0 : Kd.C Kd.string w A0_0 l0_0.length l0_0) (hc0_0 : l0_0.length ≤ c0_0) (hr0_1 : Kd.C k100 w A0_1 l0_1.length l0_1) (hc0_1 : l0_1.length ≤ c0_1) (hr0_3 : Kd.C k103 w A0_3 l0_3.length l0_3) (hc0_3 : l0_3.length ≤ c0_3) (h : impl_DeltaOk.f k l0_0 l0_1 a0_2 l0_3 = some r) :
  Calls Tryz.prog 69 #[.agg #[.slice A0_0 l0_0.length c0_0, .slice A0_1 l0_1.length c0_1, .bool a0_2, .slice A0_3 l0_3.length c0_3]] w fun e w' => e = .returned (.bool r) ∧ Below w.heap.size w w' := by
 have hu34 := Tryz.underlying34
 have HR0_0 := Aside0.mk hr0_0
 have HC0_0 := Aside0.mk hc0_0
 clear hr0_0 hc0_0
 have HR0_1 := Aside0.mk hr0_1
 have HC0_1 := Aside0.mk hc0_1
 clear hr0_1 hc0_1
 have HR0_3 := Aside0.mk hr0_3
 have HC0_3 := Aside0.mk hc0_3
 clear hr0_3 hc0_3
 have HB := Aside0.mk (Below.refl w.heap.size w)
 unfold impl_DeltaOk.f at h
 have H := h
 clear h
 have HC2 := Aside0.mk H
 clear H
 go_enter Tryz.func69, Tryz.ntmps69
 go_upto_region 1 with (first | ((with_reducible refine gate_dst (N := 1) rfl ?_); (try (refine gate_guard (by rfl) ?_; dsimp only)); refine box_event rfl (N := 1) rfl (cs := #[.slice A0_0 l0_0.length c0_0, .slice A0_1 l0_1.length c0_1, .bool a0_2, .slice A0_3 l0_3.length c0_3]) (t := 34) (by go_simp <;> rfl) ?_; intro gb101 hg w3 hbox hb; have BK101 := Aside0.mk (hbox); have GW101 := Le_.mk (ge_of hg HB.out); have GE101 := Le_.mk (ge_of hg HB.out); replace HB := kB HB hb; clear hb hbox hg))
 (try simp only [Act.put, List.setIfInBounds_toArray, List.set_cons_zero, List.set_cons_succ])
 go_cut [31] (fun v31 wc => ∃ (kq : Nat) (x31_1 : Bool), v31 = .bool x31_1 ∧ Aside0 (impl_DeltaOk.j0 kq x31_1 l0_0 l0_1 a0_2 l0_3 = some r) ∧ Aside0 (kq ≤ k) ∧ Aside0 (wc.heap[gb101]? = some (.cells #[(.slice A0_0 l0_0.length c0_0), (.slice A0_1 l0_1.length c0_1), .bool a0_2, (.slice A0_3 l0_3.length c0_3)] 34 (0, 0))) ∧ Aside0 (Below w.heap.size w wc))
 case first =>
  have H := HC2.out
  clear HC2
  replace H := Option.bind_eq_some_iff.mp H
  obtain ⟨t102, A40, H⟩ := H
  have A4 := Aside0.mk A40
  clear A40
  by_cases c5 : t102 = true
  ·subst c5
   rw [if_pos rfl] at H
   replace H := Option.bind_eq_some_iff.mp H
   obtain ⟨t103, A60, H⟩ := H
   have A6 := Aside0.mk A60
   clear A60
   by_cases c7 : t103 = true
   ·subst c7
    rw [if_pos rfl] at H
    replace H := Option.bind_eq_some_iff.mp H
    obtain ⟨t104, A80, H⟩ := H
    have A8 := Aside0.mk A80
    clear A80
    by_cases c9 : t104 = true
    ·subst c9
     rw [if_pos rfl] at H
     by_cases c10 : a0_2 = true
     ·subst c10
      rw [if_pos rfl] at H
      have H' := Aside0.mk H
      clear H
      have hz11 := cells_4 BK101.out
      go_wp2_with (first | ((with_reducible refine gate_callee (f := 114) rfl ?_); refine goL (some 7) rfl rfl gf114 #[.slice A0_0 l0_0.length c0_0, .int .i64 24] rfl rfl ?_; (with_reducible refine (impl_wordsOk.calls k _ _ l0_0 24 true _ (cx (Kd.C_below HR0_0.out HB.out)) HC0_0.out A4.out).mono ?_); rintro e w' ⟨rfl, ⟨nd, rfl⟩⟩; refine ⟨_, rfl, ?_⟩) | (go_at_call 102; (with_reducible refine (impl_entriesOk.calls k _ _ l0_1 true _ ?side1 ?side2 A6.out).mono ?_); (case side1 => repeat (first | exact (Kd.C_below HR0_1.out (bx HB.out)) | (with_reducible refine Kd.C_alloc ?_ _) | (with_reducible refine Kd.C_drewN ?_ _) | (with_reducible refine Kd.C_drew ?_))); (case side2 => exact HC0_1.out); rintro e w12 ⟨rfl, hb⟩; replace BK101 := kb BK101 hb; replace HB := kB HB hb; (try clear hb); (try clear hb2); (try clear hk); (try clear hi); have hz13 := cells_4 BK101.out) | (go_at_call 101; (with_reducible refine (impl_affixesOk.calls k _ _ l0_3 true _ (cx (Kd.C_below HR0_3.out HB.out)) HC0_3.out A8.out).mono ?_); rintro e w14 ⟨rfl, hb⟩; replace BK101 := kb BK101 hb; replace HB := kB HB hb; (try clear hb); (try clear hb2); (try clear hk); (try clear hi); have hz15 := cells_4 BK101.out))
      go_meet
      case rel => exact ⟨_, (false), (by first | rfl | (simp; done) | (simp [*]; done)), H', ⟨by first | omega | exact Nat.le_refl _⟩, ⟨gx (BK101.out)⟩, ⟨bx HB.out⟩⟩
     ·replace c10 := Bool.eq_false_iff.mpr c10
      subst c10
      rw [if_neg Bool.false_ne_true] at H
      have H' := Aside0.mk H
      clear H
      have hz16 := cells_4 BK101.out
      go_wp2_with (first | ((with_reducible refine gate_callee (f := 114) rfl ?_); refine goL (some 7) rfl rfl gf114 #[.slice A0_0 l0_0.length c0_0, .int .i64 24] rfl rfl ?_; (with_reducible refine (impl_wordsOk.calls k _ _ l0_0 24 true _ (cx (Kd.C_below HR0_0.out HB.out)) HC0_0.out A4.out).mono ?_); rintro e w' ⟨rfl, ⟨nd, rfl⟩⟩; refine ⟨_, rfl, ?_⟩) | (go_at_call 102; (with_reducible refine (impl_entriesOk.calls k _ _ l0_1 true _ ?side1 ?side2 A6.out).mono ?_); (case side1 => repeat (first | exact (Kd.C_below HR0_1.out (bx HB.out)) | (with_reducible refine Kd.C_alloc ?_ _) | (with_reducible refine Kd.C_drewN ?_ _) | (with_reducible refine Kd.C_drew ?_))); (case side2 => exact HC0_1.out); rintro e w17 ⟨rfl, hb⟩; replace BK101 := kb BK101 hb; replace HB := kB HB hb; (try clear hb); (try clear hb2); (try clear hk); (try clear hi); have hz18 := cells_4 BK101.out) | (go_at_call 101; (with_reducible refine (impl_affixesOk.calls k _ _ l0_3 true _ (cx (Kd.C_below HR0_3.out HB.out)) HC0_3.out A8.out).mono ?_); rintro e w19 ⟨rfl, hb⟩; replace BK101 := kb BK101 hb; replace HB := kB HB hb; (try clear hb); (try clear hb2); (try clear hk); (try clear hi); have hz20 := cells_4 BK101.out))
      go_meet
      case rel => exact ⟨_, (decide ((l0_3.length : Int) > 0)), (by first | rfl | (simp; done) | (simp [*]; done)), H', ⟨by first | omega | exact Nat.le_refl _⟩, ⟨gx (BK101.out)⟩, ⟨bx HB.out⟩⟩
    ·replace c9 := Bool.eq_false_iff.mpr c9
     subst c9
     rw [if_neg Bool.false_ne_true] at H
     have H' := Aside0.mk H
     clear H
     have hz21 := cells_4 BK101.out
     go_wp2_with (first | ((with_reducible refine gate_callee (f := 114) rfl ?_); refine goL (some 7) rfl rfl gf114 #[.slice A0_0 l0_0.length c0_0, .int .i64 24] rfl rfl ?_; (with_reducible refine (impl_wordsOk.calls k _ _ l0_0 24 true _ (cx (Kd.C_below HR0_0.out HB.out)) HC0_0.out A4.out).mono ?_); rintro e w' ⟨rfl, ⟨nd, rfl⟩⟩; refine ⟨_, rfl, ?_⟩) | (go_at_call 102; (with_reducible refine (impl_entriesOk.calls k _ _ l0_1 true _ ?side1 ?side2 A6.out).mono ?_); (case side1 => repeat (first | exact (Kd.C_below HR0_1.out (bx HB.out)) | (with_reducible refine Kd.C_alloc ?_ _) | (with_reducible refine Kd.C_drewN ?_ _) | (with_reducible refine Kd.C_drew ?_))); (case side2 => exact HC0_1.out); rintro e w22 ⟨rfl, hb⟩; replace BK101 := kb BK101 hb; replace HB := kB HB hb; (try clear hb); (try clear hb2); (try clear hk); (try clear hi); have hz23 := cells_4 BK101.out) | (go_at_call 101; (with_reducible refine (impl_affixesOk.calls k _ _ l0_3 false _ (cx (Kd.C_below HR0_3.out HB.out)) HC0_3.out A8.out).mono ?_); rintro e w24 ⟨rfl, hb⟩; replace BK101 := kb BK101 hb; replace HB := kB HB hb; (try clear hb); (try clear hb2); (try clear hk); (try clear hi)))
     go_meet
     case rel => exact ⟨_, (true), (by first | rfl | (simp; done) | (simp [*]; done)), H', ⟨by first | omega | exact Nat.le_refl _⟩, ⟨gx (BK101.out)⟩, ⟨bx HB.out⟩⟩
   ·replace c7 := Bool.eq_false_iff.mpr c7
    subst c7
    rw [if_neg Bool.false_ne_true] at H
    have H' := Aside0.mk H
    clear H
    have hz25 := cells_4 BK101.out
    go_wp2_with (first | ((with_reducible refine gate_callee (f := 114) rfl ?_); refine goL (some 7) rfl rfl gf114 #[.slice A0_0 l0_0.length c0_0, .int .i64 24] rfl rfl ?_; (with_reducible refine (impl_wordsOk.calls k _ _ l0_0 24 true _ (cx (Kd.C_below HR0_0.out HB.out)) HC0_0.out A4.out).mono ?_); rintro e w' ⟨rfl, ⟨nd, rfl⟩⟩; refine ⟨_, rfl, ?_⟩) | (go_at_call 102; (with_reducible refine (impl_entriesOk.calls k _ _ l0_1 false _ ?side1 ?side2 A6.out).mono ?_); (case side1 => repeat (first | exact (Kd.C_below HR0_1.out (bx HB.out)) | (with_reducible refine Kd.C_alloc ?_ _) | (with_reducible refine Kd.C_drewN ?_ _) | (with_reducible refine Kd.C_drew ?_))); (case side2 => exact HC0_1.out); rintro e w26 ⟨rfl, hb⟩; replace BK101 := kb BK101 hb; replace HB := kB HB hb; (try clear hb); (try clear hb2); (try clear hk); (try clear hi)))
    go_meet
    case rel => exact ⟨_, (true), (by first | rfl | (simp; done) | (simp [*]; done)), H', ⟨by first | omega | exact Nat.le_refl _⟩, ⟨gx (BK101.out)⟩, ⟨bx HB.out⟩⟩
  ·replace c5 := Bool.eq_false_iff.mpr c5
   subst c5
   rw [if_neg Bool.false_ne_true] at H
   have H' := Aside0.mk H
   clear H
   have hz27 := cells_4 BK101.out
   go_wp2_with (first | ((with_reducible refine gate_callee (f := 114) rfl ?_); refine goL (some 7) rfl rfl gf114 #[.slice A0_0 l0_0.length c0_0, .int .i64 24] rfl rfl ?_; (with_reducible refine (impl_wordsOk.calls k _ _ l0_0 24 false _ (cx (Kd.C_below HR0_0.out HB.out)) HC0_0.out A4.out).mono ?_); rintro e w' ⟨rfl, ⟨nd, rfl⟩⟩; refine ⟨_, rfl, ?_⟩))
   go_meet
   case rel => exact ⟨_, (true), (by first | rfl | (simp; done) | (simp [*]; done)), H', ⟨by first | omega | exact Nat.le_refl _⟩, ⟨gx (BK101.out)⟩, ⟨bx HB.out⟩⟩
 case rest =>
  clear HC2
  try clear c1
  try clear p2
  try clear c5
  try clear c6
  try clear c7
  try clear c9
  try clear c10
  try clear c11
  try clear hz11
  try clear hz13
  try clear hz15
  try clear hz16
  try clear hz18
  try clear hz20
  try clear hz21
  try clear hz23
  try clear hz25
  try clear hz27
  obtain ⟨kq, x31_1, rfl, HA, HJ1, BK101, HB⟩ := hcut
  cases kq with
  | zero => exact absurd HA.out (by simp [impl_DeltaOk.j0])
  | succ kj1 =>
   have H := HA.out
   clear HA
   simp only [impl_DeltaOk.j0] at H
   by_cases c28 : x31_1 = true
   ·subst c28
    rw [if_pos rfl] at H
    obtain rfl := Option.some.inj H
    go_wp2
    go_ret
    exact ⟨by rfl, bx HB.out⟩
   ·replace c28 := Bool.eq_false_iff.mpr c28
    subst c28
    rw [if_neg Bool.false_ne_true] at H
    have H' := Aside0.mk H
    clear H
    have hz29 := cells_4 BK101.out
    go_wp2
    go_loopg [35] kj1 (fun kq v35 w' => ∃ (x35_2 : Int), v35 = .int .i64 x35_2 ∧ Aside0 (impl_DeltaOk.l0 kq l0_0 (l0_0.length : Int) x35_2 l0_0 l0_1 a0_2 l0_3 = some r) ∧ Aside0 (kq ≤ kj1) ∧ Aside0 (w'.heap[gb101]? = some (.cells #[(.slice A0_0 l0_0.length c0_0), (.slice A0_1 l0_1.length c0_1), .bool a0_2, (.slice A0_3 l0_3.length c0_3)] 34 (0, 0))) ∧ Aside0 (Below w.heap.size w w'))
    case atStart => exact ⟨(0), (by first | rfl | (simp; done) | (simp [*]; done)), H', ⟨Nat.le_refl _⟩, ⟨gx (BK101.out)⟩, ⟨bx HB.out⟩⟩
    case round =>
     clear H'
     try clear c1
     try clear c2
     try clear p2
     try clear c5
     try clear c6
     try clear c7
     try clear c9
     try clear c10
     try clear c11
     try clear c28
     try clear hz11
     try clear hz13
     try clear hz15
     try clear hz16
     try clear hz18
     try clear hz20
     try clear hz21
     try clear hz23
     try clear hz25
     try clear hz27
     try clear hz29
     try clear p2
     obtain ⟨x35_2, rfl, HA, HK2, BK101, HB⟩ := hrel
     cases gk with
     | zero => exact absurd HA.out (by simp [impl_DeltaOk.l0])
     | succ k2 =>
      have H := HA.out
      clear HA
      simp only [impl_DeltaOk.l0] at H
      by_cases c30 : x35_2 < (l0_0.length : Int)
      ·rw [if_pos c30] at H
       have c30b0 := decide_eq_true c30
       clear c30
       have c31 := ite_y H
       replace H := ite_t H
       have c31b0 := decide_eq_true c31
       clear c31
       have c32 := ite_y H
       replace H := ite_t H
       have c32b0 := decide_eq_true c32
       clear c32
       replace H := Option.bind_eq_some_iff.mp H
       obtain ⟨t106, A330, H⟩ := H
       have A33 := Aside0.mk A330
       clear A330
       by_cases c34 : t106 ≥ 0
       ·rw [if_pos c34] at H
        have c34b0 : decide (0 ≤ t106) = true := decide_eq_true c34
        clear c34
        obtain rfl := Option.some.inj H
        have p105 := of_decide_eq_true c31b0
        have q105 := of_decide_eq_true c32b0
        obtain ⟨ad105, e105, hx105_0⟩ := Kd.at_string HR0_0.out x35_2 p105 q105
        cases e105
        replace hx105_0 := px HB.out hx105_0
        replace p105 := eq_true p105
        replace q105 := eq_true q105
        have hz35 := cells_4 BK101.out
        go_wp2_with (first | ((with_reducible refine gate_callee (f := 103) rfl ?_); refine goL (some 42) rfl rfl gf103 #[.slice A0_1 l0_1.length c0_1, .string (rdOf ByteArray.empty l0_0 x35_2)] rfl rfl ?_; (with_reducible refine (impl_entryAt.calls _ _ l0_1 (rdOf ByteArray.empty l0_0 x35_2) t106 _ (cx (Kd.C_below HR0_1.out HB.out)) HC0_1.out A33.out).mono ?_); rintro e w36 ⟨rfl, hb⟩; refine ⟨_, rfl, ?_⟩; replace BK101 := kb BK101 hb; replace HB := kB HB hb; (try clear hb); (try clear hb2); (try clear hk); (try clear hi)))
        go_ret
        exact ⟨by rfl, bx HB.out⟩
       ·rw [if_neg c34] at H
        have c34b0 : decide (0 ≤ t106) = false := decide_eq_false c34
        clear c34
        have H' := Aside0.mk H
        clear H
        have p105 := of_decide_eq_true c31b0
        have q105 := of_decide_eq_true c32b0
        obtain ⟨ad105, e105, hx105_0⟩ := Kd.at_string HR0_0.out x35_2 p105 q105
        cases e105
        replace hx105_0 := px HB.out hx105_0
        replace p105 := eq_true p105
        replace q105 := eq_true q105
        have hz37 := cells_4 BK101.out
        go_wp2_with (first | ((with_reducible refine gate_callee (f := 103) rfl ?_); refine goL (some 42) rfl rfl gf103 #[.slice A0_1 l0_1.length c0_1, .string (rdOf ByteArray.empty l0_0 x35_2)] rfl rfl ?_; (with_reducible refine (impl_entryAt.calls _ _ l0_1 (rdOf ByteArray.empty l0_0 x35_2) t106 _ (cx (Kd.C_below HR0_1.out HB.out)) HC0_1.out A33.out).mono ?_); rintro e w38 ⟨rfl, hb⟩; refine ⟨_, rfl, ?_⟩; replace BK101 := kb BK101 hb; replace HB := kB HB hb; (try clear hb); (try clear hb2); (try clear hk); (try clear hi)))
        go_roundg k2
        case measure => have := HJ1.out; have := HK2.out; omega
        case rel => exact ⟨(wrap64 (x35_2 + 1)), (by first | rfl | (simp; done) | (simp [*]; done)), H', ⟨by have := HJ1.out; have := HK2.out; omega⟩, ⟨gx (BK101.out)⟩, ⟨bx HB.out⟩⟩
      ·rw [if_neg c30] at H
       have c30b0 := decide_eq_false c30
       clear c30
       obtain rfl := Option.some.inj H
       go_wp2
       go_ret
       exact ⟨by rfl, bx HB.out⟩
theorem gf108 : Go_ Tryz.prog 108 Tryz.f108 := ⟨Tryz.func108, by kernel_rfl, rfl⟩
def impl_entryLine.f (a0_0 : ByteArray) (a0_1 : ByteArray) : Option (ByteArray) := if a0_1.toList = ([] : List UInt8) then (if a0_0.size + 1 ≤ 9223372036854775807 then (some (a0_0 ++ (⟨#[10]⟩ : ByteArray))) else (none)) else (if a0_0.size + 1 ≤ 9223372036854775807 then (if (a0_0 ++ (⟨#[47]⟩ : ByteArray)).size + a0_1.size ≤ 9223372036854775807 then (if ((a0_0 ++ (⟨#[47]⟩ : ByteArray)) ++ a0_1).size + 1 ≤ 9223372036854775807 then (some (((a0_0 ++ (⟨#[47]⟩ : ByteArray)) ++ a0_1) ++ (⟨#[10]⟩ : ByteArray))) else (none)) else (none)) else (none))
theorem impl_entryLine.calls (a0_0 : ByteArray) (a0_1 : ByteArray) (r : ByteArray) (w : World) (h : impl_entryLine.f a0_0 a0_1 = some r) :
  Calls Tryz.prog 108 #[.agg #[.string a0_0, .string a0_1]] w fun e w' => e = .returned (.string r) ∧ Below w.heap.size w w' := by
 obtain ⟨s1_, hs1_⟩ : ∃ s_ : ByteArray, (a0_0 ++ (⟨#[10]⟩ : ByteArray)) = s_ := ⟨_, rfl⟩
 obtain ⟨s2_, hs2_⟩ : ∃ s_ : ByteArray, (a0_0 ++ (⟨#[47]⟩ : ByteArray)) = s_ := ⟨_, rfl⟩
 obtain ⟨s3_, hs3_⟩ : ∃ s_ : ByteArray, (s2_ ++ a0_1) = s_ := ⟨_, rfl⟩
 obtain ⟨s4_, hs4_⟩ : ∃ s_ : ByteArray, (s3_ ++ (⟨#[10]⟩ : ByteArray)) = s_ := ⟨_, rfl⟩
 have hu100 := Tryz.underlying100
 have HB := Aside0.mk (Below.refl w.heap.size w)
 have H : (if a0_1.toList = ([] : List UInt8) then (if a0_0.size + 1 ≤ 9223372036854775807 then (some s1_) else (none)) else (if a0_0.size + 1 ≤ 9223372036854775807 then (if s2_.size + a0_1.size ≤ 9223372036854775807 then (if s3_.size + 1 ≤ 9223372036854775807 then (some s4_) else (none)) else (none)) else (none))) = some r := by subst hs4_; subst hs3_; subst hs2_; subst hs1_; exact h
 clear h
 by_cases c2 : a0_1.toList = ([] : List UInt8)
 ·rw [if_pos c2] at H
  have c2b0 : (a0_1.toList == ([] : List UInt8)) = true := beq_iff_eq.mpr c2
  have c2b1 : (a0_1.toList != ([] : List UInt8)) = false := bne_eq_false_iff_eq.mpr c2
  clear c2
  have c3 := ite_y H
  replace H := ite_t H
  have c3b0 := eq_true c3
  have c3b1 := decide_eq_true c3
  try have c3b2 : (9223372036854775807 < a0_0.size + 1) = False := eq_false (Nat.not_lt.2 c3)
  obtain rfl := Option.some.inj H
  go_enter Tryz.func108, Tryz.ntmps108
  go_wp2_with (first | ((with_reducible refine gate_dst (N := 1) rfl ?_); refine box_event rfl (N := 1) rfl (cs := #[.string a0_0, .string a0_1]) (t := 100) (by go_simp <;> rfl) ?_; intro gb101 hg w4 hbox hb; have BK101 := Aside0.mk (hbox); have GW101 := Le_.mk (ge_of hg HB.out); have GE101 := Le_.mk (ge_of hg HB.out); replace HB := kB HB hb; clear hb hbox hg; have hz5 := cells_2 BK101.out))
  go_ret
  exact ⟨by first | rfl | (simp [*] <;> rfl), bx HB.out⟩
 ·rw [if_neg c2] at H
  have c2b0 : (a0_1.toList == ([] : List UInt8)) = false := beq_eq_false_iff_ne.mpr c2
  have c2b1 : (a0_1.toList != ([] : List UInt8)) = true := bne_iff_ne.mpr c2
  have c6 := ite_y H
  replace H := ite_t H
  have c6b0 := eq_true c6
  have c6b1 := decide_eq_true c6
  try have c6b2 : (9223372036854775807 < a0_0.size + 1) = False := eq_false (Nat.not_lt.2 c6)
  have c7 := ite_y H
  replace H := ite_t H
  have c7b0 := eq_true c7
  have c7b1 := decide_eq_true c7
  try have c7b2 : (9223372036854775807 < s2_.size + a0_1.size) = False := eq_false (Nat.not_lt.2 c7)
  have c8 := ite_y H
  replace H := ite_t H
  have c8b0 := eq_true c8
  have c8b1 := decide_eq_true c8
  try have c8b2 : (9223372036854775807 < s3_.size + 1) = False := eq_false (Nat.not_lt.2 c8)
  obtain rfl := Option.some.inj H
  go_enter Tryz.func108, Tryz.ntmps108
  go_wp2_with (first | ((with_reducible refine gate_dst (N := 1) rfl ?_); refine box_event rfl (N := 1) rfl (cs := #[.string a0_0, .string a0_1]) (t := 100) (by go_simp <;> rfl) ?_; intro gb101 hg w9 hbox hb; have BK101 := Aside0.mk (hbox); have GW101 := Le_.mk (ge_of hg HB.out); have GE101 := Le_.mk (ge_of hg HB.out); replace HB := kB HB hb; clear hb hbox hg; have hz10 := cells_2 BK101.out))
  go_ret
  exact ⟨by first | rfl | (simp [*] <;> rfl), bx HB.out⟩
theorem gf77 : Go_ Tryz.prog 77 Tryz.f77 := ⟨Tryz.func77, by kernel_rfl, rfl⟩
def impl_hexOf.l0 : Nat → ByteArray → List Int → Int → Option (ByteArray)
 | 0, _, _, _ => none
 | k + 1, x0, x3, x4 => if x4 < (x0.size : Int) then (if 0 ≤ x4 then (if 0 ≤ ((Int.tdiv (bt x0 x4) 16) % 256) then (if ((Int.tdiv (bt x0 x4) 16) % 256) < 16 then (if 0 ≤ (Int.tmod (bt x0 x4) 16) then (if (Int.tmod (bt x0 x4) 16) < 16 then ((some (([bt (⟨#[48, 49, 50, 51, 52, 53, 54, 55, 56, 57, 97, 98, 99, 100, 101, 102]⟩ : ByteArray) ((Int.tdiv (bt x0 x4) 16) % 256), bt (⟨#[48, 49, 50, 51, 52, 53, 54, 55, 56, 57, 97, 98, 99, 100, 101, 102]⟩ : ByteArray) (Int.tmod (bt x0 x4) 16)] : List Int) : List Int)).bind fun y104 => (if x3.length + y104.length < 140737488355328 then (impl_hexOf.l0 k x0 (x3 ++ y104) (wrap64 (x4 + 1))) else (none))) else (none)) else (none)) else (none)) else (none)) else (none)) else (some (strOfNums x3))
def impl_hexOf.f (k : Nat) (a0 : ByteArray) : Option (ByteArray) := impl_hexOf.l0 k a0 (([] : List Int)) 0
theorem impl_hexOf.mono_l : ∀ k, (∀ y0 y1 y2, LeO (impl_hexOf.l0 k y0 y1 y2) (impl_hexOf.l0 (k + 1) y0 y1 y2))
 | 0 => fun _ _ _ r h => by simp [impl_hexOf.l0] at h
 | k + 1 => by
  have ih0 := impl_hexOf.mono_l k
  ·intro y0 y1 y2
   unfold impl_hexOf.l0
   have I0_ := fun a b c => LeC.mk (ih0 a b c)
   exact LeC.out
theorem impl_hexOf.mono : ∀ a0 k, LeO (impl_hexOf.f k a0) (impl_hexOf.f (k + 1) a0) := by
 intro a0 k
 have ih0 := impl_hexOf.mono_l k
 unfold impl_hexOf.f
 have I0_ := fun a b c => LeC.mk (ih0 a b c)
 exact LeC.out
def impl_hexOf.T5 : Bool × List (List Nat × List Nat) := (true, [([], []), ([], []), ([], []), ([1, 2], [1, 2]), ([3], [3]), ([4], [4]), ([], []), ([], []), ([6, 7], [6, 7]), ([8], [8]), ([9], [9]), ([5, 10], [5, 10]), ([0, 11], [0, 11]), ([12, 12, 0, 1, 2, 3, 4, 5, 6, 7, 8, 9, 10, 11, 12], [0, 12])])
def impl_hexOf.B5 : List Nat := [0, 0, 0, 6, 14, 30, 0, 0, 192, 448, 960, 2046, 4095, 8191]
theorem impl_hexOf.tab5 : rtab .any (opsOf Tryz.f77 5) = impl_hexOf.T5 := by kernel_rfl
theorem impl_hexOf.bits5 : waitsOk impl_hexOf.T5.2 impl_hexOf.B5 = true := by kernel_rfl
theorem impl_hexOf.calls (k : Nat) (a0 : ByteArray) (r : ByteArray) (w : World) (h : impl_hexOf.f k a0 = some r) :
  Calls Tryz.prog 77 #[.string a0] w fun e w' => e = .returned (.string r) ∧ Below w.heap.size w w' := by
 have HB := Aside0.mk (Below.refl w.heap.size w)
 unfold impl_hexOf.f at h
 have H := h
 clear h
 obtain ⟨y101, hy101⟩ : ∃ y_ : List Int, y_ = (([] : List Int)) := ⟨_, rfl⟩
 first | replace H := bind_y hy101 H | rw [← hy101] at H
 have Ny101 := Aside0.mk hy101
 clear hy101
 have H' := Aside0.mk H
 clear H
 go_enter Tryz.func77, Tryz.ntmps77
 go_wp2_with (first | ((with_reducible refine gate_dst (N := 5) rfl ?_); refine Kd.R_lit (Kd.int .u8) _ 5 ?hg (N := 5) ?hd (xs := ([] : List Int)) (inner := []) (ok := fun _ => True) (okp := fun _ => True) ?hr ?hp (fun _ hk => hk) trivial (Below.refl _ _) (Nat.le_refl _) (by simp) ?_; (case hd => rfl); (case hg => rfl); (case hr => first | (go_simp; done) | (go_simp; rfl)); (case hp => exact (Reps.none _ _)); intro v102 w2 ho3 hb hg_ hnew_; clear hg_ hnew_; (first | rw [← Ny101.out] at ho3 | (simp only [Int.reduceToNat] at ho3; rw [← Ny101.out] at ho3)); have HO103 := Aside0.mk (Kd.R_lower ho3 (bz HB.out)); replace HB := kB HB hb; clear hb ho3))
 go_loopg [3, 4] k (fun kq v3 v4 w' => ∃ (x3_1 : List Int) (x4_1 : Int), v4 = .int .i64 x4_1 ∧ Aside0 (impl_hexOf.l0 kq a0 x3_1 x4_1 = some r) ∧ Aside0 (kq ≤ k) ∧ Aside0 (Kd.R (Kd.int .u8) 5 w' w.heap.size (fun _ => True) v3 x3_1) ∧ Aside0 (Below w.heap.size w w'))
 case atStart => exact ⟨(y101), (0), (by first | rfl | (simp; done) | (simp [*]; done)), H', ⟨Nat.le_refl _⟩, ⟨by (with_reducible repeat (first | apply Kd.R_alloc | apply Kd.R_drewN | apply Kd.R_drew)); first | exact HO103.out | (simp only [wrap_u8]; exact HO103.out)⟩, ⟨bx HB.out⟩⟩
 case round =>
  clear H'
  try clear p2
  obtain ⟨x3_1, x4_1, rfl, HA, HK1, HO_3, HB⟩ := hrel
  cases gk with
  | zero => exact absurd HA.out (by simp [impl_hexOf.l0])
  | succ k1 =>
   have H := HA.out
   clear HA
   simp only [impl_hexOf.l0] at H
   by_cases c4 : x4_1 < (a0.size : Int)
   ·rw [if_pos c4] at H
    have c4b0 := decide_eq_true c4
    clear c4
    have c5 := ite_y H
    replace H := ite_t H
    have c5b0 := decide_eq_true c5
    clear c5
    obtain ⟨ji7, hji7⟩ : ∃ j_ : Int, ((Int.tdiv (bt a0 x4_1) 16) % 256) = j_ := ⟨_, rfl⟩
    have hji7u8 : IntKind.u8.wrap (Int.tdiv (bt a0 x4_1) 16) = ji7 := (IntKind.wrap_u8 _).trans hji7   -- hji_u8
    replace H : (if 0 ≤ (ji7) then (if (ji7) < 16 then (if 0 ≤ (Int.tmod (bt a0 x4_1) 16) then (if (Int.tmod (bt a0 x4_1) 16) < 16 then ((some (([bt (⟨#[48, 49, 50, 51, 52, 53, 54, 55, 56, 57, 97, 98, 99, 100, 101, 102]⟩ : ByteArray) (ji7), bt (⟨#[48, 49, 50, 51, 52, 53, 54, 55, 56, 57, 97, 98, 99, 100, 101, 102]⟩ : ByteArray) (Int.tmod (bt a0 x4_1) 16)] : List Int) : List Int)).bind fun y104 => (if x3_1.length + y104.length < 140737488355328 then (impl_hexOf.l0 k1 a0 (x3_1 ++ y104) (wrap64 (x4_1 + 1))) else (none))) else (none)) else (none)) else (none)) else (none)) = some r := by first | (rw [hji7] at H; exact H) | (simp only [hji7] at H ⊢; exact H)
    have c8 := ite_y H
    replace H := ite_t H
    have c8b0 := decide_eq_true c8
    clear c8
    have c9 := ite_y H
    replace H := ite_t H
    have c9b0 := decide_eq_true c9
    clear c9
    obtain ⟨ji12, hji12⟩ : ∃ j_ : Int, (Int.tmod (bt a0 x4_1) 16) = j_ := ⟨_, rfl⟩
    replace H : (if 0 ≤ (ji12) then (if (ji12) < 16 then ((some (([bt (⟨#[48, 49, 50, 51, 52, 53, 54, 55, 56, 57, 97, 98, 99, 100, 101, 102]⟩ : ByteArray) (ji7), bt (⟨#[48, 49, 50, 51, 52, 53, 54, 55, 56, 57, 97, 98, 99, 100, 101, 102]⟩ : ByteArray) (ji12)] : List Int) : List Int)).bind fun y104 => (if x3_1.length + y104.length < 140737488355328 then (impl_hexOf.l0 k1 a0 (x3_1 ++ y104) (wrap64 (x4_1 + 1))) else (none))) else (none)) else (none)) = some r := by first | (rw [hji12] at H; exact H) | (simp only [hji12] at H ⊢; exact H)
    have c13 := ite_y H
    replace H := ite_t H
    have c13b0 := decide_eq_true c13
    clear c13
    have c14 := ite_y H
    replace H := ite_t H
    have c14b0 := decide_eq_true c14
    clear c14
    obtain ⟨y104, hy104⟩ : ∃ y_ : List Int, y_ = (([bt (⟨#[48, 49, 50, 51, 52, 53, 54, 55, 56, 57, 97, 98, 99, 100, 101, 102]⟩ : ByteArray) (ji7), bt (⟨#[48, 49, 50, 51, 52, 53, 54, 55, 56, 57, 97, 98, 99, 100, 101, 102]⟩ : ByteArray) (ji12)] : List Int)) := ⟨_, rfl⟩
    first | replace H := bind_y hy104 H | rw [← hy104] at H
    have Ny104 := Aside0.mk hy104
    clear hy104
    have c16 := ite_y H
    replace H := ite_t H
    have LMc16 := Aside0.mk c16
    clear c16
    obtain ⟨y107, hy107⟩ : ∃ y_ : List Int, y_ = (x3_1 ++ y104) := ⟨_, rfl⟩
    first | replace H := bind_y hy107 H | rw [← hy107] at H
    have Ny107 := Aside0.mk hy107
    clear hy107
    have H' := Aside0.mk H
    clear H
    try go_wp2
    replace HO_3 := Aside0.mk (Kd.R_drew HO_3.out)
    replace HB := Aside0.mk (below_drew1 HB.out)
    have p6 := of_decide_eq_true c5b0
    have q6 := of_decide_eq_true c4b0
    have hx6 := bt_at a0 x4_1
    replace p6 := eq_true p6
    replace q6 := eq_true q6
    have p10 := of_decide_eq_true c8b0
    have q10 := of_decide_eq_true c9b0
    have hx10 := bt_at (⟨#[48, 49, 50, 51, 52, 53, 54, 55, 56, 57, 97, 98, 99, 100, 101, 102]⟩ : ByteArray) (ji7)
    replace p10 := eq_true p10
    replace q10 := eq_true q10
    have p11 := of_decide_eq_true c5b0
    have q11 := of_decide_eq_true c4b0
    have hx11 := bt_at a0 x4_1
    replace p11 := eq_true p11
    replace q11 := eq_true q11
    have p15 := of_decide_eq_true c13b0
    have q15 := of_decide_eq_true c14b0
    have hx15 := bt_at (⟨#[48, 49, 50, 51, 52, 53, 54, 55, 56, 57, 97, 98, 99, 100, 101, 102]⟩ : ByteArray) (ji12)
    replace p15 := eq_true p15
    replace q15 := eq_true q15
    refine start_ (n := 14) (S := fun w' => True) (ds := []) _ (by kernel_rfl) rfl rfl trivial (fun hHeld => ?_); refine with_tabW impl_hexOf.tab5 impl_hexOf.bits5 (fun HT_ HW_ => ?_)
    generalize wr.drew = w17 at HO_3 HB hHeld ⊢
    refine ord_ [.p 0 12, .p 1 13, .p 2 14, .p 6 18, .p 7 19] ?_
    repeat (refine pu_ (v := ?_) (a' := ?_) HT_ rfl rfl (by kernel_rfl) (fun _ _ _ h => h) (by rfl) ?_ ?_ ?_; rotate_left 2; (intro w'; go_simp; with_reducible rfl); (simp only [Act.put, List.setIfInBounds_toArray, List.set_cons_zero, List.set_cons_succ, i64_w, i32_w]; rfl))
    refine ord0 ?_
    refine take_ (i := 3) (N := some 15) (v := ?_) (a' := ?_) #[true, true, true, true, false, false, true, true, false, false, false, false, false, false] rfl rfl (take_ofW HT_.out HW_.out (by kernel_rfl)) (fun _ _ _ h => h) (Or.inl ⟨by rfl, ?_⟩) hHeld ?_ ?_
    rotate_left
    ·intro w' _
     go_simp
     with_reducible rfl
    rotate_left
    ·simp only [Act.put, List.setIfInBounds_toArray, List.set_cons_zero, List.set_cons_succ, i64_w, i32_w]
     rfl
    refine ord_ [.p 4 16] ?_
    repeat (refine pu_ (v := ?_) (a' := ?_) HT_ rfl rfl (by kernel_rfl) (fun _ _ _ h => h) (by rfl) ?_ ?_ ?_; rotate_left 2; (intro w'; go_simp; with_reducible rfl); (simp only [Act.put, List.setIfInBounds_toArray, List.set_cons_zero, List.set_cons_succ, i64_w, i32_w]; rfl))
    refine ord0 ?_
    refine take_ (i := 5) (N := some 17) (v := ?_) (a' := ?_) #[true, true, true, true, true, true, true, true, false, false, false, false, false, false] rfl rfl (take_ofW HT_.out HW_.out (by kernel_rfl)) (fun _ _ _ h => h) (Or.inl ⟨by rfl, ?_⟩) hHeld ?_ ?_
    rotate_left
    ·intro w' _
     go_simp
     with_reducible rfl
    rotate_left
    ·simp only [Act.put, List.setIfInBounds_toArray, List.set_cons_zero, List.set_cons_succ, i64_w, i32_w]
     rfl
    refine take_ (i := 8) (N := some 20) (v := ?_) (a' := ?_) #[true, true, true, true, true, true, true, true, true, false, false, false, false, false] rfl rfl (take_ofW HT_.out HW_.out (by kernel_rfl)) (fun _ _ _ h => h) (Or.inl ⟨by rfl, ?_⟩) hHeld ?_ ?_
    rotate_left
    ·intro w' _
     go_simp
     with_reducible rfl
    rotate_left
    ·simp only [Act.put, List.setIfInBounds_toArray, List.set_cons_zero, List.set_cons_succ, i64_w, i32_w]
     rfl
    refine ord_ [.p 9 21] ?_
    repeat (refine pu_ (v := ?_) (a' := ?_) HT_ rfl rfl (by kernel_rfl) (fun _ _ _ h => h) (by rfl) ?_ ?_ ?_; rotate_left 2; (intro w'; go_simp; with_reducible rfl); (simp only [Act.put, List.setIfInBounds_toArray, List.set_cons_zero, List.set_cons_succ, i64_w, i32_w]; rfl))
    refine ord0 ?_
    refine take_ (i := 10) (N := some 22) (v := ?_) (a' := ?_) #[true, true, true, true, true, true, true, true, true, true, true, false, false, false] rfl rfl (take_ofW HT_.out HW_.out (by kernel_rfl)) (fun _ _ _ h => h) (Or.inl ⟨by rfl, ?_⟩) hHeld ?_ ?_
    rotate_left
    ·intro w' _
     go_simp
     with_reducible rfl
    rotate_left
    ·simp only [Act.put, List.setIfInBounds_toArray, List.set_cons_zero, List.set_cons_succ, i64_w, i32_w]
     rfl
    refine on_ (i := 11) (N := some 23) HT_ rfl rfl (by kernel_rfl) (by decide) (fun K hK => ?_)
    refine Kd.R_lit_step (Kd.int .u8) _ 5 ?hg (N := 23) ?hd (xs := ([bt (⟨#[48, 49, 50, 51, 52, 53, 54, 55, 56, 57, 97, 98, 99, 100, 101, 102]⟩ : ByteArray) (ji7), bt (⟨#[48, 49, 50, 51, 52, 53, 54, 55, 56, 57, 97, 98, 99, 100, 101, 102]⟩ : ByteArray) (ji12)] : List Int)) (inner := [.int .u8 (bt (⟨#[48, 49, 50, 51, 52, 53, 54, 55, 56, 57, 97, 98, 99, 100, 101, 102]⟩ : ByteArray) (ji7)), .int .u8 (bt (⟨#[48, 49, 50, 51, 52, 53, 54, 55, 56, 57, 97, 98, 99, 100, 101, 102]⟩ : ByteArray) (ji12))]) (ok := fun _ => True) (okp := fun _ => True) ?hr ?hp (fun _ hk => hk) trivial (Below.refl _ _) (Nat.le_refl _) (by simp) ?_; (case hd => rfl); (case hg => rfl); (case hr => first | (go_simp; done) | (go_simp; rfl)); (case hp => exact (Reps.one (show Kd.M (Kd.int .u8) _ _ _ (bt (⟨#[48, 49, 50, 51, 52, 53, 54, 55, 56, 57, 97, 98, 99, 100, 101, 102]⟩ : ByteArray) (ji7)) [.int .u8 (bt (⟨#[48, 49, 50, 51, 52, 53, 54, 55, 56, 57, 97, 98, 99, 100, 101, 102]⟩ : ByteArray) (ji7))] from rfl) (Reps.one (show Kd.M (Kd.int .u8) _ _ _ (bt (⟨#[48, 49, 50, 51, 52, 53, 54, 55, 56, 57, 97, 98, 99, 100, 101, 102]⟩ : ByteArray) (ji12)) [.int .u8 (bt (⟨#[48, 49, 50, 51, 52, 53, 54, 55, 56, 57, 97, 98, 99, 100, 101, 102]⟩ : ByteArray) (ji12))] from rfl) (Reps.none _ _))))
    intro v105 w18 ho19 hb hg_ hnew_
    clear hg_ hnew_
    (first | rw [← Ny104.out] at ho19 | (simp only [Int.reduceToNat] at ho19; rw [← Ny104.out] at ho19))
    have HO106 := Aside0.mk (Kd.R_lower (Kd.R_new' ho19 (Kd.R_lt (rx HO_3.out))) (bz HB.out))
    replace HO_3 := Aside0.mk (Kd.R_elder' (rx HO_3.out) (Kd.R_base ho19) hb)
    replace HB := kB HB hb
    clear hb ho19
    obtain ⟨Ao21, co21, eo21⟩ := Kd.R_slice HO106.out
    (first | subst eo21 | (injection eo21 with f1_ f2_ f3_; have f4_ := f1_.symm; have f5_ := f3_.symm; clear f1_ f2_ f3_; subst f4_; subst f5_))
    refine hK.out _ _ trivial (fun hHeld => ?_)
    clear hK K
    refine norm_ (a' := ?_) ?_ ?_
    rotate_left
    ·show Act.put _ (some 23) _ = _
     simp only [Act.put, List.setIfInBounds_toArray, List.set_cons_zero, List.set_cons_succ, i64_w, i32_w]
     rfl
    refine on_ (i := 12) (N := some 24) HT_ rfl rfl (by kernel_rfl) (by decide) (fun K hK => ?_)
    refine Kd.R_append_rows_step (Kd.int .u8) (w0 := w) w.heap.size (by rfl) (.tmp 12) (.tmp 23) 122 5 (.int .u8 0) 1 rfl Tryz.underlying122 info5 rfl (by decide) (by omega) u3 x3_1 y104 _ _ _ (fun k_ => some k_ ≠ (.slice Ao21 y104.length co21 : Value).ownBlock) (fun _ => False) rfl rfl ?aO ?aR (fun _ _ h => h) (fun _ h => h.elim) ?aF ?aB ?aS ?aL ?_
    (case aR => exact cx (Kd.R_reads' HO106.out).2.2)
    (case aB => exact (bx HB.out))
    (case aF => exact (fun k_ hk => Kd.fresh' (Kd.R_lt (rx HO106.out)) k_ hk))
    (case aO => exact (rx (Kd.R_mono HO_3.out (fun _ hk => hk.2))))
    (case aS => exact (bz HB.out))
    (case aL => have := LMc16.out; omega)
    intro v108 w20 ho hb hg hat
    rw [← Ny107.out] at ho
    replace HO106 := Aside0.mk (Kd.R_after (ok := (fun _ => True)) (rx HO106.out) hg hat)
    replace HB := Aside0.mk (hb)
    have HO109 := Aside0.mk (ho)
    clear HO_3
    clear ho hb hg hat
    refine hK.out _ _ trivial (fun hHeld => ?_)
    clear hK K
    refine norm_ (a' := ?_) ?_ ?_
    rotate_left
    ·show Act.put _ (some 24) _ = _
     simp only [Act.put, List.setIfInBounds_toArray, List.set_cons_zero, List.set_cons_succ, i64_w, i32_w]
     rfl
    refine ord_ [.p 13 3] ?_
    repeat (refine pu_ (v := ?_) (a' := ?_) HT_ rfl rfl (by kernel_rfl) (fun _ _ _ h => h) (by rfl) ?_ ?_ ?_; rotate_left 2; (intro w'; go_simp; with_reducible rfl); (simp only [Act.put, List.setIfInBounds_toArray, List.set_cons_zero, List.set_cons_succ, i64_w, i32_w]; rfl))
    refine ord0 ?_
    refine done_ (done_of HT_.out (by kernel_rfl)) ?_
    try go_wp2
    go_roundg k1
    case measure => have := HK1.out; omega
    case rel => exact ⟨(y107), (wrap64 (x4_1 + 1)), (by first | rfl | (simp; done) | (simp [*]; done)), H', ⟨by have := HK1.out; omega⟩, ⟨rx (Kd.R_mono HO109.out (fun _ hk => trivial))⟩, ⟨bx HB.out⟩⟩
   ·rw [if_neg c4] at H
    have c4b0 := decide_eq_false c4
    clear c4
    obtain rfl := Option.some.inj H
    have hcv22 := own_string (P := Tryz.prog) Tryz.underlying122 Tryz.underlying5 Tryz.underlying9 (Kd.own_of_R HO_3.out)
    go_wp2
    go_ret
    exact ⟨by rfl, bx HB.out⟩
end Go.Proofs.YtaakfmpffhfaeaaGreatDoor.M
end
