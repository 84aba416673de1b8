/- impl.sortEntries, walked by hand: its row holds the one sorted order, where stems are apart. -/
import Derived.Test.YtabindnaedchgaaRtJ
import Derived.Test.YtabindnaedchgaaEShelf
import Derived.Test.YtabindnaedchgaaSortIns
import Derived.Sort.LotA
import Derived.Laws.Cover1
import Derived.Shelf.SlSortCmp.NoneTotal
namespace Go.Proofs.Ytabindnaedchgaa.Rf
open Go Go.RowKit Go.Sort Go.Lib
set_option linter.unusedVariables false
set_option linter.unusedSimpArgs false
theorem isNaN_calls (s : ByteArray) (w : World) : Calls Try.prog 103 #[.string s] w fun e w' => e = .returned (.bool false) ∧ w' = w := by
  go_enter Try.func103, Try.ntmps103
  go_wp2
  go_ret
  exact ⟨by simp, rfl⟩
/-- How two texts are compared. -/
def cmpB (x y : ByteArray) : Int := if Op.bytesLess x.toList y.toList = true then -1 else if (!(Op.bytesLess x.toList y.toList || x.toList == y.toList)) = true then 1 else 0
theorem compare_calls (x y : ByteArray) (w : World) : Calls Try.prog 81 #[.string x, .string y] w fun e w' => e = .returned (.int .i64 (cmpB x y)) ∧ w' = w := by
  unfold cmpB
  cases h1 : Op.bytesLess x.toList y.toList
  · cases h2 : (x.toList == y.toList)
    · go_enter Try.func81, Try.ntmps81
      go_wp2_with (go_at_call 103; refine (isNaN_calls _ _).mono ?_; rintro e w' ⟨rfl, rfl⟩)
      go_ret
      exact ⟨by simp, rfl⟩
    · go_enter Try.func81, Try.ntmps81
      go_wp2_with (go_at_call 103; refine (isNaN_calls _ _).mono ?_; rintro e w' ⟨rfl, rfl⟩)
      go_ret
      exact ⟨by simp, rfl⟩
  · go_enter Try.func81, Try.ntmps81
    go_wp2_with (go_at_call 103; refine (isNaN_calls _ _).mono ?_; rintro e w' ⟨rfl, rfl⟩)
    go_ret
    exact ⟨by simp, rfl⟩
theorem cmpE_calls (x y : ByteArray × ByteArray) (w : World) : Calls Try.prog 80 #[.agg #[.string x.1, .string x.2], .agg #[.string y.1, .string y.2]] w fun e w' => e = .returned (.int .i64 (cmpB x.1 y.1)) ∧ ∃ q os, w' = Go.Sort.grow (w.drewN q) os := by
  go_enter Try.func80, Try.ntmps80
  go_wp2_with (go_at_call 81; refine (compare_calls _ _ _).mono ?_; rintro e w' ⟨rfl, rfl⟩)
  go_ret
  refine ⟨rfl, 0, #[.cells #[.string x.1, .string x.2] 38, .cells #[.string y.1, .string y.2] 38], ?_⟩
  unfold Go.Sort.grow
  rw [show (w.drewN 0).heap ++ #[Obj.cells #[.string x.1, .string x.2] 38, Obj.cells #[.string y.1, .string y.2] 38] = ((w.heap.push (.cells #[.string x.1, .string x.2] 38)).push (.cells #[.string y.1, .string y.2] 38)) from by apply Array.ext'; rw [show (w.drewN 0).heap = w.heap from rfl, Array.toList_append, Array.toList_push, Array.toList_push, List.append_assoc]; rfl]
  rfl
instance instSortE : Inhabited (ByteArray × ByteArray) := ⟨(ByteArray.empty, ByteArray.empty)⟩
def encS (x : ByteArray × ByteArray) : List Value := [.string x.1, .string x.2]
theorem ltOf_cmp (x y : ByteArray × ByteArray) : ltOf (fun a b : ByteArray × ByteArray => cmpB a.1 b.1) x y = ltE x y := by
  show decide (cmpB x.1 y.1 < 0) = _
  unfold cmpB ltE
  by_cases h : Op.bytesLess x.1.toList y.1.toList = true
  · rw [if_pos h, h]
    rfl
  · have h2 : Op.bytesLess x.1.toList y.1.toList = false := by simpa using h
    rw [if_neg h, h2]
    split <;> rfl
theorem swoE : SWO (ltOf fun a b : ByteArray × ByteArray => cmpB a.1 b.1) := by
  rw [show (ltOf fun a b : ByteArray × ByteArray => cmpB a.1 b.1) = ltE from funext fun x => funext fun y => ltOf_cmp x y]
  exact ⟨ltE_irrefl, fun _ _ _ => ltE_trans, fun _ _ _ => ltE_ntrans⟩
theorem flat_get (d : Array (ByteArray × ByteArray)) (j i : Nat) (hj : j < d.size) (hi : i < 2) : (flatK encS 2 d)[j * 2 + i]! = (encS d[j]!)[i]! := by
  rw [get_flatK encS 2 d (j * 2 + i) (by omega), show (j * 2 + i) / 2 = j from by omega, show (j * 2 + i) % 2 = i from by omega]
theorem heap_sorted {w : World} {g off : Nat} {cur : Array Value} {t : TypeId} {fz : Nat × Nat} (hh : w.heap[g]? = some (.cells cur t fz)) (d : Array (ByteArray × ByteArray)) (m : Nat) (os : Array Obj) :
    (sortWorldK encS 2 w g off m d os).heap[g]? = some (.cells (putCells id off (flatK encS 2 d) cur) t fz) := by
  have hlt : g < w.heap.size := (Array.getElem?_eq_some_iff.1 hh).1
  show ((w.heap.modify g (onCells (putCells id off (flatK encS 2 d)))) ++ os)[g]? = _
  rw [Array.getElem?_append_left (by rw [Array.size_modify]; exact hlt), Array.getElem?_modify, if_pos rfl, hh]
  rfl
theorem heap_other (w : World) (g off k : Nat) (hk : k ≠ g) (hlt : k < w.heap.size) (d : Array (ByteArray × ByteArray)) (m : Nat) (os : Array Obj) :
    (sortWorldK encS 2 w g off m d os).heap[k]? = w.heap[k]? := by
  show ((w.heap.modify g (onCells (putCells id off (flatK encS 2 d)))) ++ os)[k]? = _
  rw [Array.getElem?_append_left (by rw [Array.size_modify]; exact hlt), Array.getElem?_modify, if_neg (fun e => hk e.symm)]
theorem size_sorted (w : World) (g off : Nat) (d : Array (ByteArray × ByteArray)) (m : Nat) (os : Array Obj) : w.heap.size ≤ (sortWorldK encS 2 w g off m d os).heap.size := by
  show _ ≤ ((w.heap.modify g (onCells (putCells id off (flatK encS 2 d)))) ++ os).size
  rw [Array.size_append, Array.size_modify]
  omega
theorem cmp_lays (w : World) (blk off size : Nat) : CmpLays Try.prog 80 #[] encS 2 (fun a b => cmpB a.1 b.1) blk off size w := fun m os dk _ x y => by
  refine (cmpE_calls x y _).mono ?_
  rintro e w' ⟨rfl, q, os', rfl⟩
  exact ⟨rfl, q, os', rfl⟩
set_option maxHeartbeats 4000000 in
/-- the row in memory -/
theorem sort_calls (g off cap : Nat) (l : List (ByteArray × ByteArray)) (w : World) (cur : Array Value) (t : TypeId) (fz : Nat × Nat) (hh : w.heap[g]? = some (.cells cur t fz)) (hfz : ∀ o, o < cur.size → ¬(fz.1 ≤ o ∧ o < fz.2)) (hsz : off + l.length * 2 ≤ cur.size)
    (hc : ∀ j (hj : j < l.length), CAt w g (off + j * 2) [.string l[j].1, .string l[j].2]) (hd : (l.map (fun e => e.1)).Pairwise (fun a b => a ≠ b)) (hlen : l.length < 4611686018427387904) :
    Calls Try.prog 37 #[.slice (some ⟨g, off, none⟩) l.length cap] w fun e w' => e = .returned (.tuple #[]) ∧ ∃ d m os, d.size = l.length ∧ d.toList = sortE l ∧ w' = sortWorldK encS 2 w g off m d os := by
  have hgl : g < w.heap.size := (Array.getElem?_eq_some_iff.1 hh).1
  have eg : ∀ args w, (callFunc 80 args).run Try.prog w = .ok (.enter 80 args) w := enters_of Try.func80 (by kernel_rfl) rfl
  have hH : HoldsK encS 2 w g off l.toArray := by
    intro q hq
    have hq2 : q < l.length * 2 := by simpa using hq
    have hj : q / 2 < l.length := by omega
    have gf := get_flatK encS 2 l.toArray q (by simpa using hq2)
    have el : l.toArray[q / 2]! = l[q / 2] := getElem!_pos l.toArray (q / 2) (by simpa using hj)
    rw [el] at gf
    have hm : q % 2 = 0 ∨ q % 2 = 1 := by omega
    constructor
    · show _ = some ((flatK encS 2 l.toArray)[q]!)
      rw [gf]
      rcases hm with hm | hm <;> rw [hm]
      · have := hc (q / 2) hj 0 _ rfl
        rwa [show off + q / 2 * 2 + 0 = off + q by omega] at this
      · have := hc (q / 2) hj 1 _ rfl
        rwa [show off + q / 2 * 2 + 1 = off + q by omega] at this
    · have := hfz (off + q) (by omega)
      simp only [World.frozen?, hh]
      simp
      omega
  have hcall := AnyQ.slices_SortFunc Try.laysSort 2 Try.isAgg38 Try.sizeOf38 encS (fun _ => rfl) (fun x v hv => by simp [encS] at hv; rcases hv with rfl | rfl <;> rfl) (fun a b => cmpB a.1 b.1) swoE 80 #[] g off cap l.toArray w eg (cmp_lays w g off _) hH hgl (by simpa using hlen)
  have hcall' : Calls Try.prog 79 #[.slice (some ⟨g, off, none⟩) l.length cap, .func (.func 80) #[] #[]] w fun e w' => e = .returned (.tuple #[]) ∧ ∃ d' n os, PermIn 0 l.toArray.size l.toArray d' ∧ SortedIn (ltOf fun a b : ByteArray × ByteArray => cmpB a.1 b.1) 0 l.toArray.size d' ∧ w' = sortWorldK encS 2 w g off n d' os := by
    exact hcall
  clear hH hcall hc
  go_enter Try.func37, Try.ntmps37
  go_wp2_with (go_at_call 79; refine hcall'.mono ?_; rintro e w' ⟨rfl, d', m, os, hp, hs, rfl⟩)
  go_end0
  obtain ⟨hsz, _, hperm⟩ := hp
  have hsz' : d'.size = l.length := by simpa using hsz
  have hperm' : d'.toList.Perm l := by
    have e1 : d'.extract 0 l.toArray.size = d' := by rw [← hsz]; exact Array.extract_size
    rw [e1, Array.extract_size] at hperm
    simpa using hperm
  have hsort : d'.toList.Pairwise (fun a b => ltE b a = false) := by
    rw [List.pairwise_iff_getElem]
    intro i j hi hj hij
    have hi' : i < d'.size := by simpa using hi
    have hj' : j < d'.size := by simpa using hj
    have := hs i j (Nat.zero_le _) hij (by simpa [hsz'] using hj')
    rw [ltOf_cmp, getElem!_pos d' j hj', getElem!_pos d' i hi'] at this
    simpa using this
  exact ⟨rfl, d', m, os, hsz', sort_unique hd hperm' hsort, rfl⟩
abbrev impl_sortEntries.ps : List Par := [⟨.row (.st (.pair .str .str)), .io (.own .ro)⟩]
abbrev impl_sortEntries.rs : List Res := []
def impl_sortEntries.F (_ : Nat) (l : List (ByteArray × ByteArray)) : Option (List (ByteArray × ByteArray)) := if (l.map (fun e => e.1)).Pairwise (fun a b => a ≠ b) ∧ l.length < 4611686018427387904 then some (sortE l) else none
def impl_sortEntries.f (k : Nat) (l : List (ByteArray × ByteArray)) : Option (List (ByteArray × ByteArray)) := impl_sortEntries.F k l
theorem impl_sortEntries.can : Can Try.prog 37 := can_of (fn := Try.f37) (by kernel_rfl) (by kernel_rfl) (by kernel_rfl)
theorem sort_none (w : World) : Calls Try.prog 37 #[.slice none 0 0] w fun e w' => e = .returned (.tuple #[]) ∧ w' = w := by
  have hcall : Calls Try.prog 79 #[.slice none 0 0, .func (.func 80) #[] #[]] w fun e w' => e = .returned (.tuple #[]) ∧ w' = w := AnyF.slices_SortFunc_none Try.laysSort none 0 _ w
  go_enter Try.func37, Try.ntmps37
  go_wp2_with (go_at_call 79; refine hcall.mono ?_; rintro e w' ⟨rfl, rfl⟩)
  go_end0
  exact ⟨rfl, rfl⟩
theorem impl_sortEntries.snd (k : Nat) : Snd Try.prog Jp 37 ⟨impl_sortEntries.ps, impl_sortEntries.rs, impl_sortEntries.F k⟩ := by
  intro l r hr ξ w vs tk wf hG hsz lt dj hargs
  simp only [impl_sortEntries.F] at hr
  split at hr
  case isFalse => cases hr
  rename_i hd
  obtain ⟨hd, hlen⟩ := hd
  obtain rfl := Option.some.inj hr
  obtain ⟨cs, h0, h1⟩ := hargs 0 _ _ rfl rfl
  have h1 : Rel ξ w (.row (.st (.pair .str .str))) (.own .ro) l cs (tk 0) := h1
  rcases h1 with ⟨hl, hcs⟩ | ⟨a, cap, c, t, fz, Te, hcs, h2, h3, h4, h5, h6, h7, h8, h9, h10, h11⟩
  · have hl : l = [] := hl
    subst hl
    subst hcs
    obtain rfl := vs_one hsz h0
    refine (sort_none w).mono ?_
    rintro e w' ⟨rfl, rfl⟩
    refine ⟨_, ξ, Em, Em, rfl, Fr.refl _ _ _, wf, rfl, fun i p hi hp => ?_, Dj.em _, fun b hb => hb.elim (fun x => x.elim) fun x => x.elim⟩
    cases i with
    | zero =>
      simp only [List.getElem?_cons_zero, Option.some.injEq] at hi
      subst hi
      exact ⟨⟨.row (.st (.pair .str .str)), ([] : List (ByteArray × ByteArray))⟩, rfl, rfl, [.slice none 0 0], rfl, .inl ⟨rfl, rfl⟩⟩
    | succ i => simp at hi
  · obtain ⟨g, off, sp⟩ := a
    simp only at h2 h3 h4 h7 h8 h9 h11
    subst h2
    subst hcs
    obtain rfl := vs_one hsz h0
    have hn : (Ty.st (.pair .str .str)).n = 2 := rfl
    have h7 : off + cap * 2 ≤ c.size := h7
    have h6 : l.length ≤ cap := h6
    have hgl : g < w.heap.size := (Array.getElem?_eq_some_iff.1 h4).1
    refine (sort_calls g off cap l w c t fz h4 h5 (by omega) (fun j hj => ?_) hd hlen).mono ?_
    · obtain ⟨c', k1, k2, k3⟩ := h11 j hj
      obtain rfl := rel_pair k3
      exact k2
    · rintro e w' ⟨rfl, d, m, os, e1, e2, rfl⟩
      have hh := heap_sorted (off := off) h4 d m os
      have hcell : ∀ o, (sortWorldK encS 2 w g off m d os).cell? ⟨g, o, none⟩ = (putCells id off (flatK encS 2 d) c)[o]? := fun o => cell_of hh o
      have hps : (putCells id off (flatK encS 2 d) c).size = c.size := by simp [putCells]
      have F : Fr (fun b => ∃ i, tk i b) ξ w ξ (sortWorldK encS 2 w g off m d os) := by
        refine ⟨rfl, rfl, rfl, size_sorted _ _ _ _ _ _, fun b hb hn => ⟨heap_other w g off b (fun e => hn ⟨0, e ▸ h3⟩) hb d m os, rfl⟩, fun b o v ho hv => ?_, fun _ _ => Nat.le_refl _⟩
        by_cases hb : b = g
        · subst hb
          have h8 : ξ b ≤ off := h8
          rw [hcell, putCells, Array.getElem?_mapIdx]
          rw [cell_of h4] at hv
          rw [hv, Option.map_some, if_neg (by omega)]
        · rw [cell_eq (heap_other w g off b hb (cell_lt hv) d m os)]
          exact hv
      refine ⟨_, ξ, Em, tk 0, rfl, F, fun b hb => wf b (Nat.le_trans (size_sorted _ _ _ _ _ _) hb), rfl, fun i p hi hp => ?_, Dj.em _, fun b hb => hb.elim (fun x => x.elim) fun x => ⟨.inl ⟨0, x⟩, Nat.lt_of_lt_of_le (lt 0 b x) (size_sorted _ _ _ _ _ _)⟩⟩
      cases i with
      | succ i => simp at hi
      | zero =>
        simp only [List.getElem?_cons_zero, Option.some.injEq] at hi
        subst hi
        have hls : (sortE l).length = l.length := by rw [← e2, Array.length_toList, e1]
        refine ⟨⟨.row (.st (.pair .str .str)), sortE l⟩, rfl, rfl, [.slice (some ⟨g, off, none⟩) l.length cap], rfl, .inr ⟨⟨g, off, none⟩, cap, _, t, fz, fun _ => Em, by rw [hls], rfl, h3, hh, ?_, ?_, ?_, h8, fun i => ⟨Sb.em _, fun x => x⟩, fun _ _ _ => Dj.em _, fun i hi => ?_⟩⟩
        · rw [hps]; exact h5
        · rw [hls]; exact h6
        · rw [hps]; exact h7
        · have hi' : i < d.size := by rw [e1, ← hls]; exact hi
          have hd' : d[i]! = (sortE l)[i] := by
            rw [getElem!_pos d i hi']
            have : d.toList[i]? = (sortE l)[i]? := by rw [e2]
            rw [List.getElem?_eq_getElem (by simpa using hi'), List.getElem?_eq_getElem hi] at this
            simpa using this
          refine ⟨[.string (sortE l)[i].1, .string (sortE l)[i].2], rfl, ?_, pair_rel _ _ _ _⟩
          intro j v hv
          have hj : j < 2 := (List.getElem?_eq_some_iff.1 hv).1
          show (sortWorldK encS 2 w g off m d os).cell? ⟨g, off + i * 2 + j, none⟩ = some v
          have hlt : off + i * 2 + j < c.size := by omega
          rw [hcell, putCells, Array.getElem?_mapIdx, Array.getElem?_eq_getElem hlt, Option.map_some, if_pos ⟨by omega, by rw [size_flatK]; omega⟩]
          rw [show off + i * 2 + j - off = i * 2 + j by omega, flat_get d i j hi' hj, hd', ← hv]
          match j, hj with
          | 0, _ => rfl
          | 1, _ => rfl
end Go.Proofs.Ytabindnaedchgaa.Rf
