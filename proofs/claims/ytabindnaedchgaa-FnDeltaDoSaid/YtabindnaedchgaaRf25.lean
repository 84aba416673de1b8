/- Functions that put what they turn in place into a variable first. Nothing of any program. -/
import Derived.Test.YtabindnaedchgaaRf24
namespace Go.Proofs.Ytabindnaedchgaa.Rf
open Go Go.RowKit
set_option linter.unusedVariables false
set_option linter.unusedSimpArgs false
def leaveB (E : TyOf) (d : Tmp) (vs : List ResultVar) (ps : List Par) (rs : List Res) (e : Ex) (σ : St) : Option (ProdT (outs ps rs)) := match e with
  | .ex _ => none
  | _ => match getRes E vs rs σ with
    | some (ss, σ) => match ps with
      | p :: _ => match p.m, σ.av d with
        | .io f, .box τ x f' (some _) => if f' = f then packT _ (ss ++ [⟨τ, x⟩]) else none
        | _, _ => none
      | [] => none
    | none => none
/-- the first operation puts parameter 0 into a variable, whose own cells stay -/
def evBox (E : TyOf) (C : Nat → CEs) (H : Heads) (fn : Func) (ps : List Par) (rs : List Res) (k : Nat) (x : ProdT (ps.map (·.τ))) : Option (ProdT (outs ps rs)) := match fn.body with
  | some (.seq (.region _ ops false) c) => match ops.toList with
    | o :: l => match o.dst, o.op, o.guard with
      | some d, .box t (.tmp 0), none => match E.of t with
        | some τ => match takeV E (start ps x fn.ntmps) t (.tmp 0) with
          | some (s, f, σ) => match cast? τ s with
            | some y => evOps E (C k) ops l (σ.put d (.box τ y f (some 0))) fun σ => evCode E C H c k (norm (headOf H c) σ) (leaveB E d fn.results.toList ps rs)
            | none => none
          | none => none
        | none => none
      | _, _, _ => none
    | [] => none
  | _ => none
def boxB (fn : Func) (ps : List Par) : Bool := decide ((ps.filter (·.isIn)).length ≤ 1) && match ps with
  | p :: _ => p.isIn && match fn.body with
    | some (.seq (.region _ ops false) c) => match ops.toList with
      | o :: l => match o.dst with
        | some d => !((l.filterMap (·.dst)).contains d || (dsts c).contains d) && decide (d < fn.ntmps)
        | none => false
      | [] => false
    | _ => false
  | [] => false
section
variable {ρ : Type} {P : Program} {E : TyOf} {C : Nat → CEs} {H : Heads} {T0 : Bs} {ξ0 : Im} {w0 : World} {tk : Nat → Bs} {Tf : Bs} {ξ : Im} {w : World} {σ : St} {tm : Array Value}
/-- from here on -/
theorem SA.rebase (h : SA T0 ξ0 w0 tk Em ξ w σ tm) : SA (fun b => ∃ t, tk t b) ξ w tk Em ξ w σ tm :=
  { h with fr := Fr.refl _ _ _, may := fun t b hb => ⟨.inl ⟨t, hb⟩, (h.may t b hb).2⟩, mayf := fun b hb => hb.elim }
theorem fnBox_ok {J : Jd P} (he : EOk P E) (hC : ∀ k, CsOk P J (C k)) (hm : P.follows .mixedOrders = true) {n : FuncId} {fn : Func} (hf : P.funcs[n]? = some fn) {ps : List Par} {rs : List Res} (hp : boxB fn ps = true) (k : Nat) :
    Snd P J n ⟨ps, rs, evBox E C H fn ps rs k⟩ := by
  intro x r hr ξ w vs tk wf hG hsz lt dj hargs
  simp only at hsz hargs hr
  obtain ⟨tk0, S, hval⟩ := start_ok x fn.ntmps wf hsz lt dj hargs
  unfold evBox at hr
  simp only [boxB, Bool.and_eq_true, decide_eq_true_eq] at hp
  obtain ⟨hp1, hp2⟩ := hp
  split at hr
  case h_2 => cases hr
  rename_i id ops c hb
  rw [hb] at hp2
  refine calls_of_wp hf hb ?_
  split at hr
  case h_2 => cases hr
  rename_i o l hol
  cases ps with
  | nil => cases hp2
  | cons p ps =>
  simp only [hol] at hp2
  split at hr
  case h_2 => cases hr
  rename_i d t hd hop hgd
  rw [hd] at hp2
  simp only [Bool.and_eq_true, Bool.not_eq_true', Bool.or_eq_false_iff, decide_eq_true_eq] at hp2
  obtain ⟨hpin, ⟨hd1, hd2⟩, hdl⟩ := hp2
  split at hr
  case h_2 => cases hr
  rename_i τ hE
  split at hr
  case h_2 => cases hr
  rename_i s f σ1 htk
  split at hr
  case h_2 => cases hr
  rename_i y hy
  cases cast?_eq hy
  obtain ⟨tk1, T1, cs, k1, k2, k3, k4, k5, k6⟩ := takeV_ok S htk
  have k1 := k1.drop (un_em' T1)
  -- the new variable, never turned
  obtain ⟨B, hB⟩ : ∃ B, B = w.heap.size := ⟨_, rfl⟩
  obtain ⟨ξ1, hxN, hxB⟩ : ∃ ξ1 : Im, (∀ b, b ≠ B → ξ1 b = ξ b) ∧ ξ1 B = cs.length := ⟨fun b => if b = B then cs.length else ξ b, fun b hb => if_neg hb, if_pos rfl⟩
  obtain ⟨w1, hw1⟩ : ∃ w1, w1 = w.alloc (.cells cs.toArray t) := ⟨_, rfl⟩
  have F1 : Fr Em ξ w ξ1 w1 := by
    have F := Fr.alloc Em ξ w (.cells cs.toArray t)
    rw [← hw1] at F
    refine ⟨F.os, F.tape, F.output, F.size, fun b hb hn => ⟨(F.blk b hb hn).1, hxN b (by omega)⟩, F.imm, fun b hb => ?_⟩
    rw [hxN b (by omega)]
    exact Nat.le_refl _
  have hs1 : w1.heap.size = B + 1 := by rw [hw1, hB]; exact size_alloc _ _
  have wf1 : Wf ξ1 w1 := fun b hb => by
    rw [hxN b (by omega)]
    exact wf b (by omega)
  have S1 := k1.step F1 (Sb.em _) wf1 (Tf' := Un T1 (fun i => i = B)) (fun b hb => by
    rcases hb with hb | hb
    · exact ⟨.inl hb, by have := (k1.mayf b hb).2; omega⟩
    · subst hb; exact ⟨.inr (Nat.le_of_eq hB.symm), by omega⟩)
  have hnT : ¬ T1 B := fun hx => by have := (k1.mayf B hx).2; omega
  have hheap : w1.heap[B]? = some (.cells cs.toArray t (0, 0)) := by rw [hw1, hB]; exact heap_new _ _
  have K1 : Keep T1 ξ w ξ1 w1 := F1.keep wf (fun b hb => (k1.mayf b hb).2) (Dj.em' _)
  have own : SOwn ξ1 w1 (.box τ y f (some 0)) (.pointer (some ⟨B, 0, none⟩)) (Un T1 (fun i => i = B)) :=
    ⟨B, cs.toArray, t, (0, 0), T1, rfl, .inr rfl, hheap, fun _ _ => by simp, by simp only [BxI]; rw [hxB]; simp, Sb.l _ _, hnT, by simpa using k4.keep K1⟩
  have hlen : d < (vs ++ Array.replicate (fn.ntmps - vs.size) undef).size := by
    rw [Array.size_append, Array.size_replicate]
    exact Nat.lt_of_lt_of_le hdl (by omega)
  have S2 := S1.put (d := d) (a := .box τ y f (some 0)) (tm' := (vs ++ Array.replicate (fn.ntmps - vs.size) undef).setIfInBounds d (.pointer (some ⟨B, 0, none⟩))) (T' := Un T1 (fun i => i = B)) (Tf' := Em) (by simp) (fun t ht => getD_set_ne ht) (by rw [getD_set_eq hlen]; exact own) trivial (Sb.l _ _) (Sb.em _) (Dj.em' _) (by rw [← S1.sz]; exact hlen)
  have S3 := S2.rebase
  have hG3 := hG.step S2.fr (T' := fun b => ∃ t, upd tk1 d (Un T1 fun i => i = B) t b) (fun b ⟨t, hb⟩ => (S2.may t b hb).1)
  rw [evOps_eq] at hr
  obtain ⟨σ3, hr1, hr2⟩ := Option.bind_eq_some_iff.1 hr
  have hnl : ∀ o ∈ l, o.dst ≠ some d := fun o ho e => by
    have : d ∈ l.filterMap (·.dst) := List.mem_filterMap.2 ⟨o, ho, e⟩
    simp at hd1
    exact hd1 o ho e
  have hnc : d ∉ dsts c := fun hx => by simp [hx] at hd2
  refine wp_seq (wp_region_list ?_)
  rw [hol]
  have hw : Region.wanted o (yielded ops (vs ++ Array.replicate (fn.ntmps - vs.size) undef)) = true := by simp [Region.wanted, hgd]
  unfold wpList
  rw [if_pos hw]
  refine .inl ?_
  unfold Oper.wp
  rw [ev_eq]
  have hrun : (execOp (ev (vs ++ Array.replicate (fn.ntmps - vs.size) undef)) o).run P w = .ok (.value (.pointer (some ⟨B, 0, none⟩))) w1 := by
    simp [execOp, hop, Instr.box, newVar, newRow, k3, mkV_cells k4 k5, hB, hw1]
  rw [show ev (⟨vs ++ Array.replicate (fn.ntmps - vs.size) undef, []⟩ : Act).tmps = ev (vs ++ Array.replicate (fn.ntmps - vs.size) undef) from rfl, hrun, Oper.upon_value, put_df]
  rw [show ((⟨vs ++ Array.replicate (fn.ntmps - vs.size) undef, []⟩ : Act).put o.dst (.pointer (some ⟨B, 0, none⟩))).tmps = (vs ++ Array.replicate (fn.ntmps - vs.size) undef).setIfInBounds d (.pointer (some ⟨B, 0, none⟩)) by rw [hd]; rfl]
  refine region_ok he hG3 (hC k) [] l _ σ3 _ _ _ _ S3 hr1 fun tm3 w3 ξ3 tk3 S4 kp3 => ?_
  obtain ⟨tk4, ξ4, S5⟩ := norm_ok (headOf H c) S4
  refine code_ok (H := H) he hG3 hC hm [] c k _ tk4 ξ4 w3 tm3 _ r _ S5 hr2 ?_
  intro e σ' tm' w' ξ' tk' S' kept hl
  have hbody : leaveB E d fn.results.toList (p :: ps) rs e σ' = some r → bodyPost P fn (fun e w' => ∃ v, ∃ ξ' : Im, ∃ tr tb : Bs, e = .returned v ∧ Fr (fun b => ∃ i, tk i b) ξ w ξ' w' ∧ Wf ξ' w' ∧ SOwn ξ' w' (oneAV (resAV rs (unpack _ r))) v tr ∧
      (∀ (i : Nat) (q : Par), (p :: ps)[i]? = some q → q.isIn = true → ∃ s, (unpack _ r)[rs.length]? = some s ∧ s.1 = q.τ ∧ SOwn ξ' w' (parAV q s) (vs.getD i undef) tb) ∧
      Dj tr tb ∧ (∀ b, tr b ∨ tb b → ((∃ i, tk i b) ∨ w.heap.size ≤ b) ∧ b < w'.heap.size)) .ret ⟨tm', []⟩ w' := by
    intro hl
    unfold leaveB at hl
    split at hl
    · cases hl
    · split at hl
      case h_2 => cases hl
      rename_i ss σ2 hg
      simp only at hl
      split at hl
      case h_2 => cases hl
      rename_i f1 τ1 x1 f2 q1 hpm hav
      split at hl
      case isFalse => cases hl
      rename_i hff
      subst hff
      have hun := unpack_pack hl
      obtain ⟨v, ξ2, tk2, tr, hrun2, b1, hown, hss⟩ := res_ok he S' hg
      have htot : Fr (fun b => ∃ i, tk i b) ξ w ξ2 w' := S2.fr.trans b1.fr fun b ⟨t, hb⟩ => (S2.may t b hb).1
      have fm : ∀ b, May (fun b => ∃ t, upd tk1 d (Un T1 fun i => i = B) t b) w1 w' b → ((∃ i, tk i b) ∨ w.heap.size ≤ b) ∧ b < w'.heap.size := by
        intro b ⟨h1, h2⟩
        refine ⟨?_, h2⟩
        rcases h1 with ⟨t, h1⟩ | h1
        · exact (S2.may t b h1).1
        · right; omega
      refine ⟨rfl, _, hrun2, v, ξ2, tr, tk2 d, rfl, htot, b1.wf, ?_, ?_, Dj.symm ((b1.djf d).sub (Sb.refl _) (Sb.r _ _)), fun b hb => hb.elim (fun hb => fm b (b1.mayf b (.inr hb))) (fun hb => fm b (b1.may d b hb))⟩
      · rw [hun, resAV_app rs ss _ hss]
        exact hown
      · intro i q hq hqin
        obtain rfl : i = 0 := filter_one hp1 hq hqin (show (p :: ps)[0]? = some p from rfl) hpin
        simp only [List.getElem?_cons_zero, Option.some.injEq] at hq
        subst hq
        have ho := b1.own d
        rw [hav] at ho
        obtain ⟨b, c', t', fz, T', m1, m2, m3, m4, m5, m6, m7, m8⟩ := ho
        have hv : tm'.getD d undef = .pointer (some ⟨B, 0, none⟩) := by
          rw [kept d hnc, kp3 d hnl, getD_set_eq hlen]
        rw [hv] at m1
        obtain ⟨hbB, _⟩ := ptr_inj m1
        subst hbB
        have hty : τ1 = p.τ := by
          have hu2 := unpack_ty (l := outs (p :: ps) rs) r
          rw [hun] at hu2
          have h3 := congrArg (fun l => l[rs.length]?) hu2
          simp only [List.map_append, outs] at h3
          rw [List.getElem?_append_right (by simp [hss]), List.getElem?_append_right (by simp)] at h3
          simpa [hss, List.filter_cons, hpin] using h3
        have hty0 : τ = p.τ := by
          rcases start_av (p :: ps) x fn.ntmps 0 with ⟨p', s', e1, e2, e3⟩ | ⟨e1, _⟩
          · simp only [List.getElem?_cons_zero, Option.some.injEq] at e1
            subst e1
            have hs : s'.1 = p.τ := by
              have hu := unpack_ty (l := (p :: ps).map (·.τ)) x
              have h3 : ((unpack _ x).map (·.1))[0]? = some s'.1 := by rw [List.getElem?_map, e2]; rfl
              rw [hu] at h3
              simpa using h3.symm
            simp only [parAV, hpm] at e3
            unfold takeV take at htk
            simp only [e3] at htk
            split at htk
            · rename_i hq
              split at hq <;> (cases hq; split at htk <;> cases htk; exact hs)
            · cases htk
          · simp at e1
        subst hty0
        subst hty
        have hlc : c'.toList.length = cs.length := by rw [m8.len, k4.len]
        have hcat : CAt w' B 0 cs := by
          intro j u hj
          have hjl : j < cs.length := (List.getElem?_eq_some_iff.1 hj).1
          have h1 : w1.cell? ⟨B, 0 + j, none⟩ = some u := by rw [cell_of hheap]; simpa using hj
          exact b1.fr.imm B (0 + j) u (by rw [hxB]; omega) h1
        have hcs : c'.toList = cs := (CAt_heap m3).eq hcat hlc
        refine ⟨⟨p.τ, x1⟩, ?_, rfl, ?_⟩
        · rw [hun, List.getElem?_append_right (by omega), hss, Nat.sub_self]; rfl
        · simp only [parAV, hpm]
          refine ⟨cs, ?_, ?_⟩
          · rw [← k3, ← hval 0 (by simp)]; rfl
          · rw [← hcs]; exact m8.sub m6
  cases e with
  | nm =>
    obtain ⟨h1, h2⟩ := hbody hl
    exact ⟨h1, h2⟩
  | ex id => simp [leaveB] at hl
  | rt => exact hbody hl
end
end Go.Proofs.Ytabindnaedchgaa.Rf
