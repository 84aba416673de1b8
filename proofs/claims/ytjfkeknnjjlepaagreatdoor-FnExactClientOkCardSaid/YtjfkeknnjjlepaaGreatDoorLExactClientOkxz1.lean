import Derived.Test.YtjfkeknnjjlepaaGreatDoorE1
import Derived.Test.YtjfkeknnjjlepaaGreatDoorEz2
import Derived.Test.YtjfkeknnjjlepaaGreatDoorKz2
import Derived.Test.YtjfkeknnjjlepaaGreatDoorRows
import Derived.Test.YtjfkeknnjjlepaaGreatDoorCards
import Derived.Test.YtjfkeknnjjlepaaGreatDoorTie
import Derived.WalkKit
import Derived.ProofKit
import Derived.OpenShut
import Derived.ShutString
import Derived.ChangeOld
import Derived.Below
import Derived.Carry
import Derived.SizedLaws
import Derived.Deep.DeepHandedRow
import Derived.Lib.LaidTab
import Derived.Lay

section
namespace Go.Proofs.YtjfkeknnjjlepaaGreatDoor.Rf
open Go Go.RowKit
set_option linter.unusedVariables false
noncomputable section
def q0m.C (k : Nat) : CEs := [q25.e k, q33.e k, q1w.e k, q2p.e k, q2c.e k]
abbrev q0m.ps : List Par := [⟨t49, .rd⟩]
abbrev q0m.rs : List Res := [⟨.bool, .ro, false⟩]
def q0m.H : q4u := [(10, [(1, .ro), (5, (.pr .ro (.pr .ro (.pr .ro (.pr (.pr (.own .ro) (.own .ro)) .ro)))))])]
def q0m.F := q4v E q0m.C q0m.H Tryz.f8 q0m.ps q0m.rs
def q0m.J10 (k : Nat) (x1 : q0l) (x5 : q0l) : Option (Bool) := atJ E q0m.C q0m.H Tryz.f8 q0m.ps q0m.rs [true, true, true, true, true, true, true, true] 0 [] k (sh 27 [(1, .box t49 x1 .ro none), (5, .box t49 x5 (.pr .ro (.pr .ro (.pr .ro (.pr (.pr (.own .ro) (.own .ro)) .ro)))) none)])
def q0m.f (k : Nat) (x0 : q0l) : Option (Bool) := q0m.F k x0
theorem q0m.f_eq (k : Nat) (x0 : q0l) : q0m.f k x0 = (q33.f k x0 (1048576 : Int)).bind fun (r0 : Int) => ifb (decide (r0 < 0)) (some true) ((q1w.f k x0).bind fun (r1 : q0l) => (q2p.f k r1).bind fun (r2 : Bool) => (q1w.f k x0).bind fun (r3 : q0l) => (q25.f k r3).bind fun (r4 : Bool) => ifb (!(r4 == r2)) (some false) (q0m.J10 k x0 r3)) := by kernel_rfl
theorem q0m.J10_eq (k : Nat) (x1 : q0l) (x5 : q0l) : q0m.J10 (k + 1) x1 x5 = (q1w.f k x1).bind fun (r5 : q0l) => (q2c.f k x5 r5).bind fun (r6 : Bool) => ifb (!r6) (some false) (some true) := by kernel_rfl
abbrev q0m.e (k : Nat) : FuncId × CE := (8, ⟨q0m.ps, q0m.rs, q0m.F k⟩)
theorem q0m.q (k : Nat) : Qs (q0m.e k) := qq (C := q0m.C) (fun k => .c (q25.q k) <| .c (q33.q k) <| .c (q1w.q k) <| .c (q2p.q k) <| .c (q2c.q k) <| .nil) k
end
end Go.Proofs.YtjfkeknnjjlepaaGreatDoor.Rf
end

section
namespace Go.Proofs.YtjfkeknnjjlepaaGreatDoor.Rf
open Go Go.RowKit
set_option linter.unusedVariables false
set_option linter.unusedSimpArgs false
theorem qax (c : q0l) (hc : q7s qxn c) : ∃ k, q0m.f k c = some true := by
  have s1 := qbu c 1048576 (by omega) (by omega) (qrt hc)
  by_cases h1 : qnp c ≤ 1048576
  case neg =>
    exact (s1.mono fun k e => by
      rw [q0m.f_eq, e, Option.bind_some, q6b _ _ (by omega), decide_eq_true (by omega), q06]).get
  have sm := qrv h1 (qru hc)
  have hT := qbt c sm.bk
  have hE := q73 c sm.bk
  have j : Al fun k => q0m.J10 k c c = some true := Al.succ ((hT.and hE).mono fun k ⟨e, e2⟩ => by
    rw [q0m.J10_eq, e, Option.bind_some, e2, Option.bind_some, Bool.not_true, q08])
  refine (((s1.and hT).and ((q6m c sm).and (q7q c sm))).and j |>.mono fun k ⟨⟨⟨z, e⟩, e2, e3⟩, e4⟩ => ?_).get
  rw [q0m.f_eq, z, Option.bind_some, q6b _ _ (by omega), decide_eq_false (by omega), q08, e, Option.bind_some, e3, Option.bind_some, Option.bind_some, e2, Option.bind_some, beq_self_eq_true, Bool.not_true, q08, e4]
end Go.Proofs.YtjfkeknnjjlepaaGreatDoor.Rf
end

section
/- 'FnExactClientOk': for every input it returns true and its arguments read as before. Conditions: those of the given row alone (the listed package variables as the program's text lays them). -/
namespace Go.Proofs.YtjfkeknnjjlepaaGreatDoor.fnExactClientOk
open Go.ChangeShapes Go.WideShapes Go.ChangeAt Go.RowKit
open Go.Proofs.YtjfkeknnjjlepaaGreatDoor.Rf Go.Proofs.YtjfkeknnjjlepaaGreatDoor.Frame
set_option linter.unusedVariables false
theorem own : ownKnob Tryz.prog.godebug = none := by kernel_rfl
theorem laidOut : laidOutB Tryz.prog = true := kLa
theorem qcx : ∀ n ∈ (["loop.example/medlar/impl.shaStep"] : List String), ∀ g t, Tryz.prog.globalNamed n = some g → (Tryz.prog.globals[g]?).map (·.type) = some t → Tryz.prog.readableRec t = true ∧ t < Tryz.prog.types.size := by
  intro n hn g t hg ht
  simp only [List.mem_cons, List.not_mem_nil, or_false] at hn
  subst hn
  · obtain rfl := Option.some.inj ((show Tryz.prog.globalNamed "loop.example/medlar/impl.shaStep" = some 0 by kernel_rfl).symm.trans hg)
    obtain rfl := Option.some.inj ((show (Tryz.prog.globals[0]?).map (·.type) = some 195 by kernel_rfl).symm.trans ht)
    exact ⟨by kernel_rfl, of_decide_eq_true (by kernel_rfl)⟩
set_option maxRecDepth 100000 in
theorem contract (H : Type) (enc : TypeId × Value → H) (W : World) (base : Nat) (args : Array Value) (ds gs : List (DataW H)) (before : List MemPlace)
    (hval0 : ∀ (j : Nat) t v, Tryz.f8.params[j]? = some t → args[j]? = some v → Value.okWide Tryz.prog W .any base t v)
    (hW : DataW.Whole enc Tryz.prog Tryz.f8.params.toList Rows.fnExactClientOkSpec.vars false W args.toList ds gs before)
    (hsz0 : (DataW.weightsEach Tryz.prog (Tryz.f8.params.toList ++ (OpenSpec.ofChange Rows.fnExactClientOkSpec).bare.plain.varTypes Tryz.prog) (ds ++ gs)).all (· ≤ reachBytes) = true)
    (hL : laidMetH Tryz.prog Rows.fnExactClientOkRow.laid W) (hsh : W.ShapedOpen Tryz.prog) :
    Calls Tryz.prog 8 args W fun e W' => ∃ v, e = .returned v ∧ Rows.fnExactClientOkSpec.post enc Tryz.prog Tryz.f8 false true false false W args v W' := by
  have hGm : ∃ x : Int, W.cell? ⟨3, 0, none⟩ = some (.int .i64 x) := Go.Proofs.cell_of_shapedOpen_int (zero := #[.int .i64 0]) (t := 3) hsh (of_decide_eq_true (by kernel_rfl)) (by kernel_rfl) rfl (by kernel_rfl) (by kernel_rfl) Tryz.underlying3
  have hGp : Lib.TabIs Tryz.prog W "internal/strconv.uint64pow10" .u64 Lib.pow10Tab := q5i (show Tryz.prog.globalNamed "internal/strconv.uint64pow10" = some 6 by kernel_rfl) (show (Tryz.prog.globals[6]?).map (·.type) = some 276 by kernel_rfl) Tryz.underlying276 Tryz.underlying194 (by kernel_rfl) (by kernel_rfl) hL (by rw [show Lib.tabData .u64 Lib.pow10Tab = Rows.laid_internal_strconv_uint64pow10 from by kernel_rfl]; simp [Rows.fnExactClientOkRow])
  have hGs : Lib.TabIs Tryz.prog W "loop.example/medlar/impl.shaStep" .u32 q6r := q5i (show Tryz.prog.globalNamed "loop.example/medlar/impl.shaStep" = some 0 by kernel_rfl) (show (Tryz.prog.globals[0]?).map (·.type) = some 195 by kernel_rfl) Tryz.underlying195 Tryz.underlying192 (by kernel_rfl) (by kernel_rfl) hL (by rw [show Lib.tabData .u32 q6r = Rows.laid_loop_example_medlar_impl_shaStep from by kernel_rfl]; simp [Rows.fnExactClientOkRow])
  have hGe := q5j (show Tryz.prog.globalNamed "strconv.ErrSyntax" = some 1 by kernel_rfl) (show (Tryz.prog.globals[1]?).map (·.type) = some 90 by kernel_rfl) Tryz.underlying90 hL (show ("strconv.ErrSyntax", Rows.laid_strconv_ErrSyntax) ∈ Rows.fnExactClientOkRow.laid by simp [Rows.fnExactClientOkRow])
  have hGr := q5j (show Tryz.prog.globalNamed "strconv.ErrRange" = some 2 by kernel_rfl) (show (Tryz.prog.globals[2]?).map (·.type) = some 90 by kernel_rfl) Tryz.underlying90 hL (show ("strconv.ErrRange", Rows.laid_strconv_ErrRange) ∈ Rows.fnExactClientOkRow.laid by simp [Rows.fnExactClientOkRow])
  have hJ : Jp.J W := ⟨hGm, hGp, hGs, hGe, hGr⟩
  clear hsh hL
  have hsz := hsz0
  have hval := hval0
  have hW' := hW
  obtain ⟨p, q, hA0, hV, rfl, hfz, hnd⟩ := hW
  have hA : DataW.TrodAll enc Tryz.prog W 0 (fun _ => true) true Tryz.f8.params.toList args.toList ds p := hA0
  rw [Tryz.params8] at hA hval
  obtain ⟨v0, vs0, d0, ds0, p0, q0, hargs, rfl, rfl, h0, r0⟩ := trodAll_cons hA
  obtain ⟨rfl, rfl, rfl⟩ := trodAll_nil r0
  obtain rfl : args = #[v0] := by cases args; simp_all
  have lt0 : ∀ x ∈ p0, x.block < W.heap.size := by obtain ⟨m, hm⟩ := h0; exact DataW.trod_lt m _ _ _ hm
  obtain ⟨x0, o0, G0⟩ := q7t (τ := t49) (show q5l Tryz.prog t49 (.inl 64) = true by kernel_rfl) (hval 0 64 v0 rfl rfl) h0
  obtain ⟨gv0, gw0, qv0, rfl, hv0⟩ := q6k hV
  obtain ⟨rfl, _⟩ := trodVars_none hv0
  clear hA0 hval0 hsz0
  obtain ⟨k, hk⟩ := qax x0 G0
  refine (row_of (q0m.q k).1 rfl (x := x0) (r := true) hk rfl (qwx hJ) hJ rfl ?_).mono fun e W' ⟨he, bel⟩ => ?_
  · intro i p s hp hs
    match i, hp, hs with
    | 0, _, hs => obtain rfl := Option.some.inj (show some (⟨t49, x0⟩ : Sv) = some s from hs); exact o0
    | i + 1, hp, _ => simp at hp
  subst he
  obtain ⟨pv, hpv⟩ := q5v laidOut bel _ _ _ hV qcx
  exact ⟨_, rfl, _, _, _, [], _, pv, hW', trodAll_mk1 (shut_bool Tryz.underlying4 _), (trodAll_cons_mk (Below.trod laidOut (by kernel_rfl) (of_decide_eq_true (by kernel_rfl)) h0 bel lt0) trodAll_mk0), hpv, bel.frame _, fun h => by cases h⟩
noncomputable def q56 (os : Os) : World := World.laidAll Tryz.prog os Rows.fnExactClientOkRow.laid
set_option maxRecDepth 100000 in
theorem q7y (os : Os) : laidMet Tryz.prog Rows.fnExactClientOkRow.laid ((q56 os).forCall (fun _ _ => 0) ⟨#[], #[.agg #[.string ByteArray.empty, .bool false, .int .i64 0, .slice none 0 0, .slice none 0 0, .string ByteArray.empty]], []⟩).memory :=
  laidMet_laidAll _ (by kernel_rfl) (by kernel_rfl)
set_option maxRecDepth 100000 in
theorem reads (os : Os) {H : Type} (enc : TypeId × Value → H) : ∃ x, DataW.whole enc Tryz.prog ((q56 os).forCall (fun _ _ => 0) ⟨#[], #[.agg #[.string ByteArray.empty, .bool false, .int .i64 0, .slice none 0 0, .slice none 0 0, .string ByteArray.empty]], []⟩).memory Tryz.f8.params.toList Rows.fnExactClientOkSpec.vars false #[(.agg #[.string ByteArray.empty, .bool false, .int .i64 0, .slice none 0 0, .slice none 0 0, .string ByteArray.empty] : Value)].toList 12 = some x :=
  Option.isSome_iff_exists.1 (by kernel_rfl)
set_option maxRecDepth 100000 in
theorem lifted (os : Os) (started : os.Started) (H : Type) (enc : TypeId × Value → H) (F : Stop.Interp) :
    ReturnsInHanded {} Tryz.checked os 8 .any ((OpenSpec.ofChange Rows.fnExactClientOkSpec).preRow enc Tryz.prog Tryz.f8 Rows.fnExactClientOkRow.domain false Rows.fnExactClientOkRow.laid) (((OpenSpec.ofChange Rows.fnExactClientOkSpec).at F).post enc Tryz.prog Tryz.f8 false true false false) := by
  obtain ⟨x, hx⟩ := reads os enc
  refine returnsInHanded_of_row (C := Tryz.checked) (s := OpenSpec.ofChange Rows.fnExactClientOkSpec) own started (by kernel_rfl) Tryz.func8
    (witness_row_at (enc := enc) (C := Tryz.checked) false (q56 os) #[.agg #[.string ByteArray.empty, .bool false, .int .i64 0, .slice none 0 0, .slice none 0 0, .string ByteArray.empty]] rfl (by kernel_rfl) (by kernel_rfl) (by kernel_rfl)
      (OpenSpec.preRow_of_cond 12 (x := x) hx (by kernel_rfl) (fun k hk => by cases hk) (by kernel_rfl) (q7y os))) ?_
  intro W base args ds gs before hval hW _ _ hsz hL hsh _
  exact contract H enc W base args ds gs before hval hW hsz hL hsh
theorem kIp : (Rows.fnExactClientOkRow.inPlace == Tryz.prog.inPlace 8) = true := by kernel_rfl
theorem kUn : (Rows.fnExactClientOkRow.unfollowed == Tryz.prog.unfollowed 8) = true := by kernel_rfl
theorem kRe : (Rows.fnExactClientOkRow.recurses == Tryz.prog.recurses 8) = true := by kernel_rfl
theorem kNa : (Rows.fnExactClientOkRow.named == Tryz.prog.varsNamed 8) = true := by kernel_rfl
theorem kGo : false = Rows.fnExactClientOkRow.goesBy Tryz.prog := by kernel_rfl
theorem closed : joinedFacts Tryz.prog 8 Tryz.f8 (OpenSpec.ofChange Rows.fnExactClientOkSpec).bare Rows.fnExactClientOkRow = true := by
  have kMk' : (Tryz.prog.make == some Rows.fnExactClientOkRow.make) = true := kMk
  have kLi' : (Rows.fnExactClientOkRow.lifted == Tryz.prog.liftsFinal) = true := kLi
  have kPk' : (Rows.fnExactClientOkRow.plainKeys == Tryz.prog.plainKeys) = true := kPk
  unfold joinedFacts
  rw [kIp, kUn, kRe, kNa, kLa, kMr, kPk', kSh, kMe, kLi', kMk']
  show _ = true
  kernel_rfl
theorem said : Rows.FnExactClientOkSaid :=
  OpenClaim.holds_of_cond 8 Tryz.f8 rfl rfl rfl rfl rfl rfl rfl ⟨rfl, rfl, rfl, rfl, rfl⟩ rfl rfl rfl rfl rfl (by kernel_rfl) Tryz.func8 closed
    (of_decide_eq_true (by kernel_rfl)) (by unfold Func.isWrapper; first | (rw [if_pos (by decide +kernel)]; kernel_rfl) | (rw [if_neg (by decide +kernel)]; exact ⟨rfl, rfl⟩))
    (fun os started H enc _ F => by rw [OpenClaim.pre_eq_preRow]; exact lifted os started H enc F)
theorem plain (f : FuncId) (fn : Func) (hf : Tryz.pinned.checked.prog.funcNamed "loop.example/medlar/laws.FnExactClientOk" = some f) (hfn : Tryz.pinned.checked.prog.funcs[f]? = some fn) :
    true = Tryz.pinned.checked.prog.looks [] ∧ ∀ (j : Nat) t, fn.params[j]? = some t → Tryz.pinned.checked.prog.wantsStandIn t = false := by
  obtain rfl : f = 8 := Option.some.inj ((show Tryz.prog.funcNamed "loop.example/medlar/laws.FnExactClientOk" = some 8 by kernel_rfl).symm.trans hf) |>.symm
  obtain rfl : fn = Tryz.f8 := (Option.some.inj (Tryz.func8.symm.trans hfn)).symm
  refine ⟨by kernel_rfl, fun j t ht => ?_⟩
  rw [Tryz.params8] at ht
  have hm := Array.mem_of_getElem? ht
  simp only [List.mem_toArray, List.mem_cons, List.not_mem_nil, or_false] at hm
  subst hm
  · exact (show Tryz.prog.wantsStandIn 64 = false by kernel_rfl)
theorem card : Rows.FnExactClientOkCardSaid :=
  Claim7.holds_tied_plain_at .later [] _ _ _ _ said (fun _ h => by cases h) (by kernel_rfl) (fun _ h => by cases h) fnExactClientOk_row_tie rfl ⟨rfl, rfl⟩ (by kernel_rfl) rfl plain kGo
end Go.Proofs.YtjfkeknnjjlepaaGreatDoor.fnExactClientOk
namespace Go.Proofs.YtjfkeknnjjlepaaGreatDoor
theorem fnExactClientOk_holds : Rows.FnExactClientOkCardSaid := fnExactClientOk.card
end Go.Proofs.YtjfkeknnjjlepaaGreatDoor
end
