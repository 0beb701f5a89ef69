/-
  Walks of functions, printed by wip/py/gen2.py.
-/
import Derived.Test.YtbmlendfheakeaaGreatW6
namespace Go.Am
open Go.Proofs
set_option maxRecDepth 100000
set_option linter.unusedVariables false

def L_s_l8Build_1 (f : Nat) (p_1 : STerm) (v0 : List Int) (J0 : List Int → Int → List SInstr → Option (Sl8Maker × Int)) : Nat → Int → List Int → Int → List SInstr → Option (Sl8Maker × Int)
 | 0, _, _, _, _ => none
 | n + 1, v1, v2, v3, v4 =>
 bif decide (v1 < (p_1.kids.length : Int)) then (
 jn (fun (v5 : List Int) (v6 : Int) (v7 : List SInstr) => (
 L_s_l8Build_1 f p_1 v0 J0 n (IntKind.wrap .i64 (v1 + 1)) v5 v6 v7
 )) fun J1 => (
 bif decide (0 ≤ v1) then
 Option.bind (v0[(v1 : Int).toNat]?) fun x0 =>
 bif decide (0 ≤ x0) then (
 Option.bind (M_s_l8Emit f (Sl8Maker.mk v2 v3 v4) (SInstr.mk 5 x0 0 (⟨#[]⟩ : ByteArray))) fun z0 =>
 J1 z0.slots z0.next z0.code
 ) else (
 bif decide (0 ≤ (IntKind.wrap .i64 (v1 + 1))) then
 bif decide ((v1 : Int).toNat ≤ ((IntKind.wrap .i64 (v1 + 1)) : Int).toNat) then
 bif decide (((IntKind.wrap .i64 (v1 + 1)) : Int).toNat ≤ p_1.kids.length) then
 Option.bind (M_s_l8Args f (Sl8Maker.mk v2 v3 v4) (List.take (((IntKind.wrap .i64 (v1 + 1)) : Int).toNat - (v1 : Int).toNat) (List.drop ((v1 : Int).toNat) p_1.kids))) fun z1 =>
 J1 z1.1.slots z1.1.next z1.1.code
 else none
 else none
 else none
 )
 else none
 )
 ) else (
 J0 v2 v3 v4
 )

def L_s_l8Build_2 (c_s_l8Build : Sl8Maker → STerm → Option (Sl8Maker × Int)) (p_1 : STerm) (J2 : List Int → List Int → Int → List SInstr → Option (Sl8Maker × Int)) : Nat → List Int → Int → List Int → Int → List SInstr → Option (Sl8Maker × Int)
 | 0, _, _, _, _, _ => none
 | n + 1, v8, v9, va, vb, vc =>
 bif decide (v9 < (p_1.kids.length : Int)) then (
 jn (fun (vd : Int) (ve : List Int) (vf : Int) (vg : List SInstr) => (
 bif decide (v8.length + ([vd]).length ≤ 4294967296) then
 L_s_l8Build_2 c_s_l8Build p_1 J2 n (v8 ++ ([vd])) (IntKind.wrap .i64 (v9 + 1)) ve vf vg
 else none
 )) fun J3 => (
 bif decide (0 ≤ v9) then
 Option.bind (p_1.kids[(v9 : Int).toNat]?) fun x1 =>
 bif (x1.kind == 3) then (
 Option.bind (c_s_l8Build (Sl8Maker.mk va vb vc) x1) fun z2 =>
 J3 z2.2 z2.1.slots z2.1.next z2.1.code
 ) else (
 J3 (-1) va vb vc
 )
 else none
 )
 ) else (
 J2 v8 va vb vc
 )

def B_s_l8Build (f : Nat) (c_s_l8Build : Sl8Maker → STerm → Option (Sl8Maker × Int)) (p_0 : Sl8Maker) (p_1 : STerm) : Option (Sl8Maker × Int) :=
 jn (fun (v0 : List Int) (vh : List Int) (vi : Int) (vj : List SInstr) => (
 Option.bind (M_s_l8Emit f (Sl8Maker.mk vh (IntKind.wrap .i64 (vi + 1)) vj) (SInstr.mk 7 (p_1.kids.length : Int) vi p_1.name)) fun z3 =>
 jn (fun (vk : List Int) (vl : Int) (vm : List SInstr) => (
 some ((Sl8Maker.mk vk vl vm), vi)
 )) fun J0 => (
 L_s_l8Build_1 f p_1 v0 J0 f 0 z3.slots z3.next z3.code
 )
 )) fun J2 => (
 L_s_l8Build_2 c_s_l8Build p_1 J2 f ([] : List Int) 0 p_0.slots p_0.next p_0.code
 )

def M_s_l8Build : Nat → Sl8Maker → STerm → Option (Sl8Maker × Int)
 | 0, _, _ => none
 | f + 1, p_0, p_1 => B_s_l8Build f (M_s_l8Build f) p_0 p_1

def Q_s_l8Build (c : Sl8Maker → STerm → Option (Sl8Maker × Int)) : Prop := ∀ (p_0 : Sl8Maker) (p_1 : STerm) (r : Sl8Maker × Int), c p_0 p_1 = some r → ∀ (σ_0 : St), AC Tryz.prog 146 [(.agg (cl8Maker p_0)), (.agg (cTerm p_1))] σ_0 (fun v s => v = (.tup [(.agg (cl8Maker r.1)), (I r.2)]) ∧ s = σ_0)

theorem b_s_l8Build (f : Nat) {c_s_l8Build : Sl8Maker → STerm → Option (Sl8Maker × Int)} (ih_s_l8Build : Q_s_l8Build c_s_l8Build) : Q_s_l8Build (B_s_l8Build f c_s_l8Build) := by
 intro p_0 p_1 r hM σ_0
 have F_0 := Fr.refl σ_0 []
 unfold B_s_l8Build at hM
 refine AC.of_body Tryz.func146 rfl rfl (by rfl) (by simp [Tryz.f146]) <| SW.seqR fun K0 hK0 => R.op rfl (a_box (v := (.agg (cl8Maker p_0))) rfl rfl fun a0 σ0 n0 s0 hF0 => ?_)
 have lo0 := F_0.lo1 n0
 have F0 := F_0.andThen hF0 Lo.nil
 refine R.op rfl (a_box (v := (.agg (cTerm p_1))) rfl rfl fun a1 σ1 n1 s1 hF1 => ?_)
 have ne0 := ne_new n1 s0
 have lo2 := F0.lo1 n1
 have s2 := hF1.keep s0 (by simp)
 have F1 := F0.andThen hF1 Lo.nil
 refine all8Maker fun a2 σ2 n2 s3 hF2 => ?_
 have ne1 := ne_new n2 s2
 have ne2 := ne_new n2 s1
 have lo3 := F1.lo1 n2
 have s4 := hF2.keep s2 (by simp)
 have s5 := hF2.keep s1 (by simp)
 have F2 := F1.andThen hF2 Lo.nil
 refine sn rfl <| R.done (hK0 _ _ (SW.seqR fun K1 hK1 => R.op rfl (a_buildSlice (v := (LI ([] : List Int) .full)) (bsv_of ti76 rfl ti3 pn rfl ⟨rfl, by decide, by decide, rfl⟩) (sn rfl (R.done (hK1 _ _ (SW.seqK fun K2 hK2 => ?_)))))))
 obtain ⟨J2, eJ0, hM⟩ := jn_elim hM
 have hJ0 : ∀ (v0 : List Int) (vh : List Int) (vi : Int) (vj : List SInstr) (tk0 : Tk) (env0 : Env) (σ3 : St), Fr σ_0 σ3 [] → env0.get 2 = some (.ptr a0 0) → env0.get 3 = some (.ptr a1 0) → env0.get 4 = some (.ptr a2 0) → env0.get 6 = some (LI v0 tk0) → σ3 a0 = some (.cells [(LI vh .no), (I vi), (LInstr vj .no)]) → σ3 a1 = some (.cells (cTerm p_1)) → σ3 a2 = some (.cells [(LI ([] : List Int) .full), (I 0), (LInstr ([] : List SInstr) .full)]) → TokOk σ3 tk0 v0.length 1 → Lo σ_0 [] (tkNames tk0) → J2 v0 vh vi vj = some r → K2 env0 σ3 := by
  intro v0 vh vi vj tk0 env0 σ3 F3 h0 h1 h2 h3 s6 s7 s8 t0 lo4 hM
  subst eJ0
  refine hK2 _ _ <| SW.seqR fun K3 hK3 => fp ti103 rfl h0 rfl (by decide) <| ld ti3 rfl s6 rfl <| sn rfl <| R.done (hK3 _ _ (SW.seqR fun K4 hK4 => mv rfl (it rfl rfl rfl (fp ti103 rfl h0 rfl (by decide) (R.op rfl (a_store (cs' := [(LI vh .no), (I (IntKind.wrap .i64 (vi + 1))), (LInstr vj .no)]) ti3 rfl rfl s6 rfl (nb rfl) rfl rfl fun σ4 s9 hF3 => ?_))))))
  have sa := hF3.keep s7 (m1 (Ne.symm ne0))
  have sb := hF3.keep s8 (m1 (Ne.symm ne1))
  have t1 := t0.keep hF3 (not1 (tok_cells t0 s6))
  have F4 := F3.andThen hF3 lo0
  refine R.done (hK4 _ _ (SW.seqR fun K5 hK5 => ld (v := (.agg [(LI vh .no), (I (IntKind.wrap .i64 (vi + 1))), (LInstr vj .no)])) ti103 h0 s9 rfl (fp ti25 rfl h1 rfl (by decide) (ld ti23 rfl sa rfl (R.op rfl (a_lenImm ti23 rfl rfl (n := (p_1.kids.length : Int)) (by simp) (mv rfl (fp ti25 rfl h1 rfl (by decide) (ld ti9 rfl sa rfl (R.op rfl (a_build (cs := [(I 7), (I (p_1.kids.length : Int)), (I vi), (.str p_1.name)]) ti57 rfl rfl (pc rfl (pc rfl (pc rfl (pc rfl pn)))) rfl ?_)))))))))))
  obtain ⟨z3, hr0, hM⟩ := bd hM
  refine cp (r_s_l8Emit f (Sl8Maker.mk vh (IntKind.wrap .i64 (vi + 1)) vj) (SInstr.mk 7 (p_1.kids.length : Int) vi p_1.name) z3 hr0 _) rfl (oc rfl (oc rfl on)) (LeL.refl _) <| R.op rfl (a_store (cs' := (cl8Maker z3)) ti103 h0 rfl s9 rfl (nb rfl) rfl rfl fun σ5 sc hF4 => ?_)
  have sd := hF4.keep sa (m1 (Ne.symm ne0))
  have se := hF4.keep sb (m1 (Ne.symm ne1))
  have t2 := t1.keep hF4 (not1 (tok_cells t1 s9))
  have F5 := F4.andThen hF4 lo0
  refine R.done (hK5 _ _ (SW.seqK fun K6 hK6 => ?_))
  obtain ⟨J0, eJ1, hM⟩ := jn_elim hM
  have hJ1 : ∀ (vk : List Int) (vl : Int) (vm : List SInstr) (env1 : Env) (σ6 : St), Fr σ_0 σ6 [] → env1.get 2 = some (.ptr a0 0) → env1.get 4 = some (.ptr a2 0) → env1.get 9 = some (I vi) → σ6 a1 = some (.cells (cTerm p_1)) → σ6 a2 = some (.cells [(LI ([] : List Int) .full), (I 0), (LInstr ([] : List SInstr) .full)]) → σ6 a0 = some (.cells [(LI vk .no), (I vl), (LInstr vm .no)]) → J0 vk vl vm = some r → K6 env1 σ6 := by
   intro vk vl vm env1 σ6 F6 h4 h5 h6 sf sg sh hM
   subst eJ1
   refine hK6 _ _ <| SW.seqR fun K7 hK7 => ld (v := (.agg [(LI vk .no), (I vl), (LInstr vm .no)])) ti103 h4 sh rfl <| mv h6 <| R.op rfl (a_store (cs' := [(LI vk .no), (I vl), (LInstr vm .no)]) ti103 h5 rfl sg rfl (nb rfl) rfl rfl fun σ7 sj hF5 => ?_)
   have sk := hF5.keep sh (m1 ne1)
   have F7 := F6.andThen hF5 lo3
   refine sn rfl <| R.done (hK7 _ _ (SW.ret ?_))
   obtain rfl := si hM
   exact ret_of (rcc ti103 h5 sj rfl (rc rfl rn)) (.tup [(.agg (cl8Maker (Sl8Maker.mk vk vl vm))), (I vi)]) σ_0 (Le.refl _) F7.back ⟨rfl, rfl⟩
  clear eJ1
  refine SW.seqR fun K8 hK8 => sn rfl <| R.done (hK8 _ _ (SW.block (SW.loop (LW.ind (I := fun n3 env2 σ8 => ∃ (v1 : Int) (v2 : List Int) (v3 : Int) (v4 : List SInstr), Fr σ_0 σ8 [] ∧ env2.get 2 = some (.ptr a0 0) ∧ env2.get 3 = some (.ptr a1 0) ∧ env2.get 4 = some (.ptr a2 0) ∧ env2.get 6 = some (LI v0 tk0) ∧ env2.get 9 = some (I vi) ∧ env2.get 10 = some (I v1) ∧ σ8 a1 = some (.cells (cTerm p_1)) ∧ σ8 a2 = some (.cells [(LI ([] : List Int) .full), (I 0), (LInstr ([] : List SInstr) .full)]) ∧ σ8 a0 = some (.cells [(LI v2 .no), (I v3), (LInstr v4 .no)]) ∧ TokOk σ8 tk0 v0.length 1 ∧ L_s_l8Build_1 f p_1 v0 J0 n3 v1 v2 v3 v4 = some r) ?_ f _ _ ⟨0, z3.slots, z3.next, z3.code, F5, h0, h1, h2, h3, rfl, rfl, sd, se, sc, (t2.len (by first | rfl | simp)), hM⟩))))
  rintro n3 env2 σ8 ⟨v1, v2, v3, v4, F8, h7, h8, h9, ha, hb, hc, sl, sm, so, t3, hM⟩
  cases n3 with
  | zero => (rw [L_s_l8Build_1] at hM; cases hM)
  | succ n3 =>
   rw [L_s_l8Build_1] at hM
   refine SW.seq <| SW.seqR fun K9 hK9 => mv hc <| fp ti25 rfl h8 rfl (by decide) <| ld ti23 rfl sl rfl <| R.op rfl (a_lenImm ti23 rfl rfl (n := (p_1.kids.length : Int)) (by simp) (it rfl rfl rfl (R.done (hK9 _ _ (SW.cond rfl (fun hb0 => ?_) (fun hb0 => ?_))))))
   · have hM := cT hb0 hM
     refine SW.skip <| SW.seqK fun Ka hKa => ?_
     obtain ⟨J1, eJ2, hM⟩ := jn_elim hM
     have hJ2 : ∀ (v5 : List Int) (v6 : Int) (v7 : List SInstr) (env3 : Env) (σ9 : St), Fr σ_0 σ9 [] → env3.get 2 = some (.ptr a0 0) → env3.get 3 = some (.ptr a1 0) → env3.get 4 = some (.ptr a2 0) → env3.get 6 = some (LI v0 tk0) → env3.get 9 = some (I vi) → env3.get 10 = some (I v1) → σ9 a1 = some (.cells (cTerm p_1)) → σ9 a2 = some (.cells [(LI ([] : List Int) .full), (I 0), (LInstr ([] : List SInstr) .full)]) → σ9 a0 = some (.cells [(LI v5 .no), (I v6), (LInstr v7 .no)]) → TokOk σ9 tk0 v0.length 1 → J1 v5 v6 v7 = some r → Ka env3 σ9 := by
      intro v5 v6 v7 env3 σ9 F9 hd he hf hg hh hi sp sq sr t4 hM
      subst eJ2
      refine hKa _ _ <| SW.region <| mv hi <| it rfl rfl rfl <| sn rfl <| R.done ?_
      exact ⟨n3, Nat.lt_succ_self _, (IntKind.wrap .i64 (v1 + 1)), v5, v6, v7, F9, hd, he, hf, hg, hh, rfl, sp, sq, sr, (t4.len (by first | rfl | simp)), hM⟩
     clear eJ2
     refine SW.block <| SW.seq <| SW.seqR fun Kb hKb => mv ha <| mv hc ?_
     obtain ⟨hg0, hM⟩ := gd hM
     obtain ⟨x0, hx0, hM⟩ := bd hM
     refine R.op rfl (a_idxImm (f := (AV.int .i64)) (xs := v0) (n := v1) (e := x0) (v := (I x0)) ti76 rfl ti3 rfl rfl rfl (od hg0) hx0 rfl (li ti3 rfl rfl (it rfl rfl rfl (R.done (hKb _ _ (SW.cond rfl (fun hb1 => ?_) (fun hb1 => ?_)))))))
     · have hM := cT hb1 hM
       refine SW.seqK fun Kc hKc => SW.draw' mixed [(1, false), (2, false), (3, false), (0, false), (4, false), (5, false), (6, false), (7, false)] [] [] (by kernel_rfl) (by kernel_rfl) (fun t ht => by simp at ht) <| D.op rfl rfl (a_move ha (D.op rfl rfl (a_move hc (D.op rfl rfl (a_idxImm (f := (AV.int .i64)) (xs := v0) (n := v1) (e := x0) (v := (I x0)) ti76 rfl ti3 rfl rfl rfl (od hg0) hx0 rfl (D.op rfl rfl (a_loadPtr (v := (.agg [(LI v2 .no), (I v3), (LInstr v4 .no)])) ti103 h7 so rfl (D.op rfl rfl (a_loadIptr ti3 rfl rfl (D.op rfl rfl (a_build (cs := [(I 5), (I x0), (I 0), (.str (⟨#[]⟩ : ByteArray))]) ti57 rfl rfl (pc rfl (pc rfl pn)) rfl ?_)))))))))))
       obtain ⟨z0, hr1, hM⟩ := bd hM
       refine D.op rfl rfl (a_call (g := 118) rfl (oc rfl (oc rfl on)) (AC.goP (r_s_l8Emit f (Sl8Maker.mk v2 v3 v4) (SInstr.mk 5 x0 0 (⟨#[]⟩ : ByteArray)) z0 hr1 _) (LeL.refl _) (D.op rfl rfl (a_store (cs' := (cl8Maker z0)) ti103 h7 rfl so rfl (nb rfl) rfl rfl fun σa ss hF6 => ?_))))
       have st := hF6.keep sl (m1 (Ne.symm ne0))
       have su := hF6.keep sm (m1 (Ne.symm ne1))
       have t5 := t3.keep hF6 (not1 (tok_cells t3 so))
       have Fa := F8.andThen hF6 lo0
       refine D.done (hKc _ _ (SW.exit (Qte (Qbx ?_))))
       exact hJ2 z0.slots z0.next z0.code _ _ Fa h7 h8 h9 ha hb hc st su ss (t5.len (by first | rfl | simp)) hM
     · have hM := cF hb1 hM
       refine SW.skip <| SW.seqK fun Kd hKd => SW.draw' mixed [(1, false), (3, false), (4, false), (5, false), (0, false), (2, false), (6, false), (7, false), (8, false), (9, false), (10, false), (11, false), (12, false), (13, false)] [] [103] (by kernel_rfl) (by kernel_rfl) (by intro t ht; simp only [List.mem_cons, List.not_mem_nil, or_false] at ht; rcases ht with rfl; exact ⟨_, _, ti103, rfl⟩) <| D.op rfl rfl (a_fieldPtr ti25 rfl h8 rfl (by decide) (D.op rfl rfl (a_move hc (D.op rfl rfl (a_move hc (D.op rfl rfl (a_int rfl rfl rfl (D.op rfl rfl (a_loadPtr (v := (.agg [(LI v2 .no), (I v3), (LInstr v4 .no)])) ti103 h7 so rfl (D.op rfl rfl (a_loadPtr ti23 rfl sl rfl ?_)))))))))))
       obtain ⟨hg1, hM⟩ := gd hM
       obtain ⟨hg2, hM⟩ := gd hM
       obtain ⟨hg3, hM⟩ := gd hM
       refine D.op rfl rfl (a_sliceImm (f := eTerm) (xs := p_1.kids) (l := (v1 : Int).toNat) (h := ((IntKind.wrap .i64 (v1 + 1)) : Int).toNat) ti23 rfl ti25 rfl rfl (lowS rfl (od hg0)) (highS rfl (od hg1)) (od hg2) (od hg3) ?_)
       obtain ⟨z1, hr2, hM⟩ := bd hM
       refine D.op rfl rfl (a_call (g := 121) rfl (oc rfl (oc rfl on)) (AC.goP (r_s_l8Args f (Sl8Maker.mk v2 v3 v4) (List.take (((IntKind.wrap .i64 (v1 + 1)) : Int).toNat - (v1 : Int).toNat) (List.drop ((v1 : Int).toNat) p_1.kids)) .no z1 hr2 _) (LeL.refl _) (D.op rfl rfl (a_move rfl (D.op rfl rfl (a_extract rfl rfl (D.op rfl rfl (a_extract rfl rfl (D.op rfl rfl (a_alloc ti103 rfl fun a3 σb n4 sv hF7 => ?_))))))))))
       have ne3 := ne_new n4 sl
       have ne4 := ne_new n4 sm
       have ne5 := ne_new n4 so
       have lo5 := F8.lo1 n4
       have sw := hF7.keep sl (by simp)
       have sx := hF7.keep sm (by simp)
       have sy := hF7.keep so (by simp)
       have t6 := t3.keep hF7 (by simp)
       have Fb := F8.andThen hF7 Lo.nil
       refine D.op rfl rfl (a_store (cs' := (cl8Maker z1.1)) ti103 rfl rfl sv rfl (nb rfl) rfl rfl fun σc sz hF8 => ?_)
       have s10 := hF8.keep sw (m1 ne3)
       have s11 := hF8.keep sx (m1 ne4)
       have s12 := hF8.keep sy (m1 ne5)
       have t7 := t6.keep hF8 (not1 (tok_cells t6 sv))
       have Fc := Fb.andThen hF8 lo5
       refine D.op rfl rfl (a_assign rfl (D.done (hKd _ _ (SW.region (ld (v := (.agg (cl8Maker z1.1))) ti103 rfl sz rfl (R.op rfl (a_store (cs' := (cl8Maker z1.1)) ti103 h7 rfl s12 rfl (nb rfl) rfl rfl fun σd s13 hF9 => ?_)))))))
       have s14 := hF9.keep s10 (m1 (Ne.symm ne0))
       have s15 := hF9.keep s11 (m1 (Ne.symm ne1))
       have s16 := hF9.keep sz (m1 (Ne.symm ne5))
       have t8 := t7.keep hF9 (not1 (tok_cells t7 s12))
       have Fd := Fc.andThen hF9 lo0
       refine R.done ?_
       exact hJ2 z1.1.slots z1.1.next z1.1.code _ _ Fd h7 h8 h9 ha hb hc s14 s15 s13 (t8.len (by first | rfl | simp)) hM
   · have hM := cF hb0 hM
     refine SW.exit <| Qte <| Qte <| Qbx ?_
     exact hJ1 v2 v3 v4 _ _ F8 h7 h9 hb sl sm so hM
 clear eJ0
 refine SW.seqR fun Ke hKe => sn rfl <| R.done (hKe _ _ (SW.block (SW.loop (LW.ind (I := fun n5 env4 σe => ∃ (v8 : List Int) (v9 : Int) (va : List Int) (vb : Int) (vc : List SInstr) (tk1 : Tk), Fr σ_0 σe [] ∧ env4.get 2 = some (.ptr a0 0) ∧ env4.get 3 = some (.ptr a1 0) ∧ env4.get 4 = some (.ptr a2 0) ∧ env4.get 6 = some (LI v8 tk1) ∧ env4.get 7 = some (I v9) ∧ σe a0 = some (.cells [(LI va .no), (I vb), (LInstr vc .no)]) ∧ σe a1 = some (.cells (cTerm p_1)) ∧ σe a2 = some (.cells [(LI ([] : List Int) .full), (I 0), (LInstr ([] : List SInstr) .full)]) ∧ TokOk σe tk1 v8.length 1 ∧ Lo σ_0 [] (tkNames tk1) ∧ L_s_l8Build_2 c_s_l8Build p_1 J2 n5 v8 v9 va vb vc = some r) ?_ f _ _ ⟨([] : List Int), 0, p_0.slots, p_0.next, p_0.code, .full, F2, rfl, rfl, rfl, rfl, rfl, s4, s5, s3, trivial, Lo.full, hM⟩))))
 rintro n5 env4 σe ⟨v8, v9, va, vb, vc, tk1, Fe, hj, hk, hl, hm, hn, s17, s18, s19, t9, lo6, hM⟩
 cases n5 with
 | zero => (rw [L_s_l8Build_2] at hM; cases hM)
 | succ n5 =>
  rw [L_s_l8Build_2] at hM
  refine SW.seq <| SW.seqR fun Kf hKf => mv hn <| fp ti25 rfl hk rfl (by decide) <| ld ti23 rfl s18 rfl <| R.op rfl (a_lenImm ti23 rfl rfl (n := (p_1.kids.length : Int)) (by simp) (it rfl rfl rfl (R.done (hKf _ _ (SW.cond rfl (fun hb2 => ?_) (fun hb2 => ?_))))))
  · have hM := cT hb2 hM
    refine SW.skip <| SW.seq <| SW.block <| SW.seqR fun Kg hKg => sn rfl <| R.done (hKg _ _ (SW.seqK fun Kh hKh => ?_))
    obtain ⟨J3, eJ3, hM⟩ := jn_elim hM
    have hJ3 : ∀ (vd : Int) (ve : List Int) (vf : Int) (vg : List SInstr) (env5 : Env) (σf : St), Fr σ_0 σf [] → env5.get 2 = some (.ptr a0 0) → env5.get 3 = some (.ptr a1 0) → env5.get 4 = some (.ptr a2 0) → env5.get 6 = some (LI v8 tk1) → env5.get 7 = some (I v9) → env5.get 8 = some (I vd) → σf a0 = some (.cells [(LI ve .no), (I vf), (LInstr vg .no)]) → σf a1 = some (.cells (cTerm p_1)) → σf a2 = some (.cells [(LI ([] : List Int) .full), (I 0), (LInstr ([] : List SInstr) .full)]) → TokOk σf tk1 v8.length 1 → J3 vd ve vf vg = some r → Kh env5 σf := by
     intro vd ve vf vg env5 σf Ff ho hp hq hr hs hu s1a s1b s1c ta hM
     subst eJ3
     refine hKh _ _ <| SW.region <| mv hr <| mv hu <| R.op rfl (a_buildSlice (v := (LI ([vd]) .full)) (bsv_of ti76 rfl ti3 (pc rfl pn) rfl ⟨rfl, by decide, by decide, rfl⟩) ?_)
     obtain ⟨hg4, hM⟩ := gd hM
     refine R.op rfl (a_append (es := List.map (AV.int .i64) v8) (ds := List.map (AV.int .i64) ([vd])) (rs := List.map (AV.int .i64) (v8 ++ ([vd]))) ti76 rfl ti76 rfl ti3 rfl rfl (.inl rfl) rfl rfl (by decide) (by decide) (by simpa using od hg4) (.inl rfl) (ta.len (by first | rfl | simp)) (by simp) fun tk2 σg tb hFa nn0 => ?_)
     have lo7 := Ff.loTk lo6 nn0
     have s1d := hFa.keep s1a (tok_cells ta s1a)
     have s1e := hFa.keep s1b (tok_cells ta s1b)
     have s1f := hFa.keep s1c (tok_cells ta s1c)
     have Fg := Ff.andThen hFa lo6
     refine sn rfl <| R.done <| SW.region <| mv hs <| it rfl rfl rfl <| sn rfl <| R.done ?_
     exact ⟨n5, Nat.lt_succ_self _, (v8 ++ ([vd])), (IntKind.wrap .i64 (v9 + 1)), ve, vf, vg, tk2, Fg, ho, hp, hq, rfl, rfl, s1d, s1e, s1f, (tb.len (by first | rfl | simp)), lo7, hM⟩
    clear eJ3
    refine SW.seqR fun Ki hKi => fp ti25 rfl hk rfl (by decide) <| ld ti23 rfl s18 rfl <| mv hn ?_
    obtain ⟨hg5, hM⟩ := gd hM
    obtain ⟨x1, hx1, hM⟩ := bd hM
    refine R.op rfl (a_idxImm (f := eTerm) (xs := p_1.kids) (n := v9) (e := x1) (v := (.agg (cTerm x1))) ti23 rfl ti25 rfl rfl rfl (od hg5) hx1 (eTerm_eq x1) (R.op rfl (a_fieldIptr ti25 rfl rfl rfl (by decide) (li ti3 rfl rfl (it rfl rfl rfl (R.done (hKi _ _ (SW.cond rfl (fun hb3 => ?_) (fun hb3 => ?_)))))))))
    · have hM := cT hb3 hM
      refine SW.draw' mixed [(1, false), (3, false), (0, false), (2, false), (4, false), (5, false), (6, false), (7, false), (8, false), (9, false), (10, false), (11, false)] [] [] (by kernel_rfl) (by kernel_rfl) (fun t ht => by simp at ht) <| D.op rfl rfl (a_fieldPtr ti25 rfl hk rfl (by decide) (D.op rfl rfl (a_move hn (D.op rfl rfl (a_loadPtr (v := (.agg [(LI va .no), (I vb), (LInstr vc .no)])) ti103 hj s17 rfl (D.op rfl rfl (a_loadPtr ti23 rfl s18 rfl (D.op rfl rfl (a_idxImm (f := eTerm) (xs := p_1.kids) (n := v9) (e := x1) (v := (.agg (cTerm x1))) ti23 rfl ti25 rfl rfl rfl (od hg5) hx1 (eTerm_eq x1) (D.op rfl rfl (a_loadIptr (v := (.agg (cTerm x1))) ti25 rfl rfl ?_)))))))))))
      obtain ⟨z2, hr3, hM⟩ := bd hM
      refine D.op rfl rfl (a_call (g := 146) rfl (oc rfl (oc rfl on)) (AC.goP (ih_s_l8Build (Sl8Maker.mk va vb vc) x1 z2 hr3 _) (LeL.refl _) (D.op rfl rfl (a_move rfl (D.op rfl rfl (a_extract rfl rfl (D.op rfl rfl (a_extract rfl rfl (D.op rfl rfl (a_store (cs' := (cl8Maker z2.1)) ti103 hj rfl s17 rfl (nb rfl) rfl rfl fun σh s1g hFb => ?_))))))))))
      have s1h := hFb.keep s18 (m1 (Ne.symm ne0))
      have s1i := hFb.keep s19 (m1 (Ne.symm ne1))
      have tc := t9.keep hFb (not1 (tok_cells t9 s17))
      have Fh := Fe.andThen hFb lo0
      refine D.op rfl rfl (a_assign rfl (D.done ?_))
      exact hJ3 z2.2 z2.1.slots z2.1.next z2.1.code _ _ Fh hj hk hl hm hn rfl s1g s1h s1i (tc.len (by first | rfl | simp)) hM
    · have hM := cF hb3 hM
      refine SW.skip ?_
      exact hJ3 (-1) va vb vc _ _ Fe hj hk hl hm hn rfl s17 s18 s19 (t9.len (by first | rfl | simp)) hM
  · have hM := cF hb2 hM
    refine SW.exit <| Qte <| Qte <| Qbx ?_
    exact hJ0 v8 va vb vc tk1 _ _ Fe hj hk hl hm s17 s18 s19 (t9.len (by first | rfl | simp)) lo6 hM

theorem rr_s_l8Build (f : Nat) : Q_s_l8Build (M_s_l8Build f) := by
 induction f with
 | zero => exact by intro p_0 p_1 r hM; rw [M_s_l8Build] at hM; cases hM
 | succ f ih => exact by intro p_0 p_1 r hM; rw [M_s_l8Build] at hM; exact b_s_l8Build f ih p_0 p_1 r hM

theorem r_s_l8Build (f : Nat) : Q_s_l8Build (M_s_l8Build f) := (rr_s_l8Build f)

def M_s_l8Put (f : Nat) (p_0 : Sl8Maker) (p_1 : STerm) (p_2 : Int) : Option Sl8Maker :=
 bif (p_1.kind == 2) then (
 Option.bind (M_s_l8Emit f p_0 (SInstr.mk 10 p_1.n p_2 (⟨#[]⟩ : ByteArray))) fun z0 =>
 some (z0)
 ) else (
 jn (fun (v0 : Bool) => (
 bif v0 then (
 bif decide (0 ≤ p_1.n) then
 Option.bind (p_0.slots[(p_1.n : Int).toNat]?) fun x0 =>
 Option.bind (M_s_l8Emit f p_0 (SInstr.mk 9 x0 p_2 (⟨#[]⟩ : ByteArray))) fun z1 =>
 some (z1)
 else none
 ) else (
 bif (p_1.kind == 1) then (
 Option.bind (M_s_l8Slot f p_0 p_1.n p_0.next) fun z2 =>
 Option.bind (M_s_l8Emit f (Sl8Maker.mk z2.slots (IntKind.wrap .i64 (z2.next + 1)) z2.code) (SInstr.mk 8 (IntKind.wrap .i64 ((IntKind.wrap .i64 (z2.next + 1)) - 1)) p_2 (⟨#[]⟩ : ByteArray))) fun z3 =>
 some (z3)
 ) else (
 Option.bind (M_s_l8Build f p_0 p_1) fun z4 =>
 Option.bind (M_s_l8Emit f z4.1 (SInstr.mk 9 z4.2 p_2 (⟨#[]⟩ : ByteArray))) fun z5 =>
 some (z5)
 )
 )
 )) fun J0 => (
 bif (p_1.kind == 1) then (
 bif decide (0 ≤ p_1.n) then
 Option.bind (p_0.slots[(p_1.n : Int).toNat]?) fun x1 =>
 J0 (decide (0 ≤ x1))
 else none
 ) else (
 J0 false
 )
 )
 )

theorem r_s_l8Put (f : Nat) (p_0 : Sl8Maker) (p_1 : STerm) (p_2 : Int) (r : Sl8Maker) (hM : M_s_l8Put f p_0 p_1 p_2 = some r) (σ_0 : St) : AC Tryz.prog 119 [(.agg (cl8Maker p_0)), (.agg (cTerm p_1)), (I p_2)] σ_0 (fun v s => v = (.agg (cl8Maker r)) ∧ s = σ_0) := by
 have F_0 := Fr.refl σ_0 []
 unfold M_s_l8Put at hM
 refine AC.of_body Tryz.func119 rfl rfl (by rfl) (by simp [Tryz.f119]) <| SW.seqR fun K0 hK0 => R.op rfl (a_box (v := (.agg (cl8Maker p_0))) rfl rfl fun a0 σ0 n0 s0 hF0 => ?_)
 have lo0 := F_0.lo1 n0
 have F0 := F_0.andThen hF0 Lo.nil
 refine R.op rfl (a_box (v := (.agg (cTerm p_1))) rfl rfl fun a1 σ1 n1 s1 hF1 => ?_)
 have ne0 := ne_new n1 s0
 have lo2 := F0.lo1 n1
 have s2 := hF1.keep s0 (by simp)
 have F1 := F0.andThen hF1 Lo.nil
 refine all8Maker fun a2 σ2 n2 s3 hF2 => ?_
 have ne1 := ne_new n2 s2
 have ne2 := ne_new n2 s1
 have lo3 := F1.lo1 n2
 have s4 := hF2.keep s2 (by simp)
 have s5 := hF2.keep s1 (by simp)
 have F2 := F1.andThen hF2 Lo.nil
 refine R.done (hK0 _ _ (SW.seq (SW.block (SW.seqR fun K1 hK1 => fp ti25 rfl rfl rfl (by decide) (ld ti3 rfl s5 rfl (it rfl rfl rfl (sn rfl (R.done (hK1 _ _ (SW.cond rfl (fun hb0 => ?_) (fun hb0 => ?_)))))))))))
 · have hM := cT hb0 hM
   refine SW.seqR fun K2 hK2 => ld (v := (.agg (cl8Maker p_0))) ti103 rfl s4 rfl <| fp ti25 rfl rfl rfl (by decide) <| ld ti3 rfl s5 rfl <| mv rfl <| R.op rfl (a_build (cs := [(I 10), (I p_1.n), (I p_2), (.str (⟨#[]⟩ : ByteArray))]) ti57 rfl rfl (pc rfl (pc rfl (pc rfl pn))) rfl ?_)
   obtain ⟨z0, hr0, hM⟩ := bd hM
   refine cp (r_s_l8Emit f p_0 (SInstr.mk 10 p_1.n p_2 (⟨#[]⟩ : ByteArray)) z0 hr0 _) rfl (oc rfl (oc rfl on)) (LeL.refl _) <| R.op rfl (a_store (cs' := (cl8Maker z0)) ti103 rfl rfl s3 rfl (nb rfl) rfl rfl fun σ3 s6 hF3 => ?_)
   have s7 := hF3.keep s4 (m1 ne1)
   have s8 := hF3.keep s5 (m1 ne2)
   have F3 := F2.andThen hF3 lo3
   refine R.done (hK2 _ _ (SW.ret (Qb (Qt ?_))))
   obtain rfl := si hM
   exact ret_of (rcc ti103 rfl s6 rfl rn) (.agg (cl8Maker z0)) σ_0 (Le.refl _) F3.back ⟨rfl, rfl⟩
 · have hM := cF hb0 hM
   refine SW.seqK fun K3 hK3 => ?_
   obtain ⟨J0, eJ0, hM⟩ := jn_elim hM
   have hJ0 : ∀ (v0 : Bool) (env0 : Env) (σ4 : St), Fr σ_0 σ4 [] → env0.get 2 = some (I p_2) → env0.get 3 = some (.ptr a0 0) → env0.get 4 = some (.ptr a1 0) → env0.get 6 = some (.ptr a2 0) → env0.get 18 = some (.bool v0) → σ4 a0 = some (.cells (cl8Maker p_0)) → σ4 a1 = some (.cells (cTerm p_1)) → σ4 a2 = some (.cells [(LI ([] : List Int) .full), (I 0), (LInstr ([] : List SInstr) .full)]) → J0 v0 = some r → K3 env0 σ4 := by
    intro v0 env0 σ4 F4 h0 h1 h2 h3 h4 s9 sa sb hM
    subst eJ0
    refine hK3 _ _ <| SW.cond h4 (fun hb1 => ?_) (fun hb1 => ?_)
    · have hM := cT hb1 hM
      refine SW.seqK fun K4 hK4 => SW.draw' mixed [(1, false), (3, false), (7, false), (0, false), (2, false), (4, false), (5, false), (6, false), (8, false), (9, false), (10, false)] [] [] (by kernel_rfl) (by kernel_rfl) (fun t ht => by simp at ht) <| D.op rfl rfl (a_fieldPtr ti103 rfl h1 rfl (by decide) (D.op rfl rfl (a_fieldPtr ti25 rfl h2 rfl (by decide) (D.op rfl rfl (a_move h0 (D.op rfl rfl (a_loadPtr (v := (.agg (cl8Maker p_0))) ti103 h1 s9 rfl (D.op rfl rfl (a_loadPtr ti76 rfl s9 rfl (D.op rfl rfl (a_loadPtr ti3 rfl sa rfl ?_)))))))))))
      obtain ⟨hg0, hM⟩ := gd hM
      obtain ⟨x0, hx0, hM⟩ := bd hM
      refine D.op rfl rfl (a_idxImm (f := (AV.int .i64)) (xs := p_0.slots) (n := p_1.n) (e := x0) (v := (I x0)) ti76 rfl ti3 rfl rfl rfl (od hg0) hx0 rfl (D.op rfl rfl (a_loadIptr ti3 rfl rfl (D.op rfl rfl (a_build (cs := [(I 9), (I x0), (I p_2), (.str (⟨#[]⟩ : ByteArray))]) ti57 rfl rfl (pc rfl (pc rfl (pc rfl pn))) rfl ?_)))))
      obtain ⟨z1, hr1, hM⟩ := bd hM
      refine D.op rfl rfl (a_call (g := 118) rfl (oc rfl (oc rfl on)) (AC.goP (r_s_l8Emit f p_0 (SInstr.mk 9 x0 p_2 (⟨#[]⟩ : ByteArray)) z1 hr1 _) (LeL.refl _) (D.op rfl rfl (a_store (cs' := (cl8Maker z1)) ti103 h3 rfl sb rfl (nb rfl) rfl rfl fun σ5 sc hF4 => ?_))))
      have sd := hF4.keep s9 (m1 ne1)
      have se := hF4.keep sa (m1 ne2)
      have F5 := F4.andThen hF4 lo3
      refine D.done (hK4 _ _ (SW.ret (Qb (Qt ?_))))
      obtain rfl := si hM
      exact ret_of (rcc ti103 h3 sc rfl rn) (.agg (cl8Maker z1)) σ_0 (Le.refl _) F5.back ⟨rfl, rfl⟩
    · have hM := cF hb1 hM
      refine SW.seqR fun K5 hK5 => fp ti25 rfl h2 rfl (by decide) <| ld ti3 rfl sa rfl <| it rfl rfl rfl <| sn rfl <| R.done (hK5 _ _ (SW.cond rfl (fun hb2 => ?_) (fun hb2 => ?_)))
      · have hM := cT hb2 hM
        refine SW.seqR fun K6 hK6 => ld (v := (.agg (cl8Maker p_0))) ti103 h1 s9 rfl <| fp ti25 rfl h2 rfl (by decide) <| ld ti3 rfl sa rfl <| fp ti103 rfl h1 rfl (by decide) <| ld ti3 rfl s9 rfl ?_
        obtain ⟨z2, hr2, hM⟩ := bd hM
        refine cp (r_s_l8Slot f p_0 p_1.n p_0.next z2 hr2 _) rfl (oc rfl (oc rfl (oc rfl on))) (LeL.refl _) <| R.op rfl (a_store (cs' := (cl8Maker z2)) ti103 h1 rfl s9 rfl (nb rfl) rfl rfl fun σ6 sf hF5 => ?_)
        have sg := hF5.keep sa (m1 (Ne.symm ne0))
        have sh := hF5.keep sb (m1 (Ne.symm ne1))
        have F6 := F4.andThen hF5 lo0
        refine R.done (hK6 _ _ (SW.seqR fun K7 hK7 => fp ti103 rfl h1 rfl (by decide) (ld ti3 rfl sf rfl (it rfl rfl rfl (fp ti103 rfl h1 rfl (by decide) (R.op rfl (a_store (cs' := [(LI z2.slots .no), (I (IntKind.wrap .i64 (z2.next + 1))), (LInstr z2.code .no)]) ti3 rfl rfl sf rfl (nb rfl) rfl rfl fun σ7 sj hF6 => ?_)))))))
        have sk := hF6.keep sh (m1 (Ne.symm ne1))
        have F7 := F6.andThen hF6 lo0
        refine R.done (hK7 _ _ (SW.seqR fun K8 hK8 => ld (v := (.agg [(LI z2.slots .no), (I (IntKind.wrap .i64 (z2.next + 1))), (LInstr z2.code .no)])) ti103 h1 sj rfl (fp ti103 rfl h1 rfl (by decide) (ld ti3 rfl sj rfl (it rfl rfl rfl (mv h0 (R.op rfl (a_build (cs := [(I 8), (I (IntKind.wrap .i64 ((IntKind.wrap .i64 (z2.next + 1)) - 1))), (I p_2), (.str (⟨#[]⟩ : ByteArray))]) ti57 rfl rfl (pc rfl (pc rfl (pc rfl pn))) rfl ?_))))))))
        obtain ⟨z3, hr3, hM⟩ := bd hM
        refine cp (r_s_l8Emit f (Sl8Maker.mk z2.slots (IntKind.wrap .i64 (z2.next + 1)) z2.code) (SInstr.mk 8 (IntKind.wrap .i64 ((IntKind.wrap .i64 (z2.next + 1)) - 1)) p_2 (⟨#[]⟩ : ByteArray)) z3 hr3 _) rfl (oc rfl (oc rfl on)) (LeL.refl _) <| R.op rfl (a_store (cs' := (cl8Maker z3)) ti103 h3 rfl sk rfl (nb rfl) rfl rfl fun σ8 sl hF7 => ?_)
        have sm := hF7.keep sj (m1 ne1)
        have F8 := F7.andThen hF7 lo3
        refine R.done (hK8 _ _ (SW.ret (Qb (Qt ?_))))
        obtain rfl := si hM
        exact ret_of (rcc ti103 h3 sl rfl rn) (.agg (cl8Maker z3)) σ_0 (Le.refl _) F8.back ⟨rfl, rfl⟩
      · have hM := cF hb2 hM
        refine SW.skip <| SW.seqR fun K9 hK9 => ld (v := (.agg (cl8Maker p_0))) ti103 h1 s9 rfl <| ld (v := (.agg (cTerm p_1))) ti25 h2 sa rfl ?_
        obtain ⟨z4, hr4, hM⟩ := bd hM
        refine cp (r_s_l8Build f p_0 p_1 z4 hr4 _) rfl (oc rfl (oc rfl on)) (LeL.refl _) <| mv rfl <| ex rfl rfl <| ex rfl rfl <| R.op rfl (a_store (cs' := (cl8Maker z4.1)) ti103 h1 rfl s9 rfl (nb rfl) rfl rfl fun σ9 so hF8 => ?_)
        have sp := hF8.keep sa (m1 (Ne.symm ne0))
        have sq := hF8.keep sb (m1 (Ne.symm ne1))
        have F9 := F4.andThen hF8 lo0
        refine sn rfl <| R.done (hK9 _ _ (SW.seqR fun Ka hKa => ld (v := (.agg (cl8Maker z4.1))) ti103 h1 so rfl (mv rfl (mv h0 (R.op rfl (a_build (cs := [(I 9), (I z4.2), (I p_2), (.str (⟨#[]⟩ : ByteArray))]) ti57 rfl rfl (pc rfl (pc rfl (pc rfl pn))) rfl ?_))))))
        obtain ⟨z5, hr5, hM⟩ := bd hM
        refine cp (r_s_l8Emit f z4.1 (SInstr.mk 9 z4.2 p_2 (⟨#[]⟩ : ByteArray)) z5 hr5 _) rfl (oc rfl (oc rfl on)) (LeL.refl _) <| R.op rfl (a_store (cs' := (cl8Maker z5)) ti103 h3 rfl sq rfl (nb rfl) rfl rfl fun σa sr hF9 => ?_)
        have ss := hF9.keep so (m1 ne1)
        have Fa := F9.andThen hF9 lo3
        refine R.done (hKa _ _ (SW.ret ?_))
        obtain rfl := si hM
        exact ret_of (rcc ti103 h3 sr rfl rn) (.agg (cl8Maker z5)) σ_0 (Le.refl _) Fa.back ⟨rfl, rfl⟩
   clear eJ0
   refine SW.region <| fp ti25 rfl rfl rfl (by decide) <| ld ti3 rfl s5 rfl <| it rfl rfl rfl <| mv rfl ?_
   rcases bcase (p_1.kind == 1) with hb3 | hb3
   · have hM := cT hb3 hM
     refine R.go (p_1.kind == 1) rfl hb3 (a_fieldPtr ti103 rfl rfl rfl (by decide) (R.go (p_1.kind == 1) rfl hb3 (a_loadPtr ti76 rfl s4 rfl (R.go (p_1.kind == 1) rfl hb3 (a_fieldPtr ti25 rfl rfl rfl (by decide) (R.go (p_1.kind == 1) rfl hb3 (a_loadPtr ti3 rfl s5 rfl ?_)))))))
     obtain ⟨hg1, hM⟩ := gd hM
     obtain ⟨x1, hx1, hM⟩ := bd hM
     refine R.go (p_1.kind == 1) rfl hb3 (a_idxImm (f := (AV.int .i64)) (xs := p_0.slots) (n := p_1.n) (e := x1) (v := (I x1)) ti76 rfl ti3 rfl rfl rfl (od hg1) hx1 rfl (R.go (p_1.kind == 1) rfl hb3 (a_loadIptr ti3 rfl rfl (R.go (p_1.kind == 1) rfl hb3 (a_int rfl rfl rfl (R.op rfl (a_pickT rfl hb3 rfl (sn rfl (R.done ?_)))))))))
     exact hJ0 (decide (0 ≤ x1)) _ _ F2 rfl rfl rfl rfl rfl s4 s5 s3 hM
   · have hM := cF hb3 hM
     refine R.not (p_1.kind == 1) rfl hb3 <| R.not (p_1.kind == 1) rfl hb3 <| R.not (p_1.kind == 1) rfl hb3 <| R.not (p_1.kind == 1) rfl hb3 <| R.not (p_1.kind == 1) rfl hb3 <| R.not (p_1.kind == 1) rfl hb3 <| R.not (p_1.kind == 1) rfl hb3 <| R.op rfl (a_pickF rfl hb3 rfl (sn rfl (R.done ?_)))
     exact hJ0 false _ _ F2 rfl rfl rfl rfl rfl s4 s5 s3 hM

def L_s_l8Goals_2 (f : Nat) (x0 : STerm) (J0 : List Int → Int → List SInstr → Option Sl8Maker) : Nat → Int → List Int → Int → List SInstr → Option Sl8Maker
 | 0, _, _, _, _ => none
 | n + 1, v0, v1, v2, v3 =>
 bif decide (v0 < (x0.kids.length : Int)) then (
 bif decide (0 ≤ v0) then
 Option.bind (x0.kids[(v0 : Int).toNat]?) fun x1 =>
 Option.bind (M_s_l8Put f (Sl8Maker.mk v1 v2 v3) x1 v0) fun z0 =>
 L_s_l8Goals_2 f x0 J0 n (IntKind.wrap .i64 (v0 + 1)) z0.slots z0.next z0.code
 else none
 ) else (
 J0 v1 v2 v3
 )

def L_s_l8Goals_1 (f : Nat) (p_1 : (List STerm)) (J1 : List Int → Int → List SInstr → Option Sl8Maker) : Nat → Int → List Int → Int → List SInstr → Option Sl8Maker
 | 0, _, _, _, _ => none
 | n + 1, v4, v5, v6, v7 =>
 bif decide (v4 < (p_1.length : Int)) then (
 jn (fun (v8 : List Int) (v9 : Int) (va : List SInstr) => (
 L_s_l8Goals_1 f p_1 J1 n (IntKind.wrap .i64 (v4 + 1)) v8 v9 va
 )) fun J2 => (
 jn (fun (vb : List Int) (vc : Int) (vd : List SInstr) => (
 J2 vb vc vd
 )) fun J3 => (
 bif decide (0 ≤ v4) then
 Option.bind (p_1[(v4 : Int).toNat]?) fun x0 =>
 Option.bind (M_s_l4Cut f x0) fun z1 =>
 bif z1 then (
 Option.bind (M_s_l8Emit f (Sl8Maker.mk v5 v6 v7) (SInstr.mk 13 0 0 (⟨#[]⟩ : ByteArray))) fun z2 =>
 J3 z2.slots z2.next z2.code
 ) else (
 jn (fun (ve : List Int) (vf : Int) (vg : List SInstr) => (
 jn (fun (vh : Int) => (
 Option.bind (M_s_l8Emit f (Sl8Maker.mk ve vf vg) (SInstr.mk vh (x0.kids.length : Int) 0 x0.name)) fun z3 =>
 J3 z3.slots z3.next z3.code
 )) fun J4 => (
 Option.bind (M_s_IsBuiltin f x0.name (x0.kids.length : Int)) fun z4 =>
 bif z4 then (
 J4 12
 ) else (
 J4 11
 )
 )
 )) fun J5 => (
 jn (fun (vi : List Int) (vj : Int) (vk : List SInstr) => (
 J5 vi vj vk
 )) fun J0 => (
 L_s_l8Goals_2 f x0 J0 f 0 v5 v6 v7
 )
 )
 )
 else none
 )
 )
 ) else (
 J1 v5 v6 v7
 )

def M_s_l8Goals (f : Nat) (p_0 : Sl8Maker) (p_1 : (List STerm)) : Option Sl8Maker :=
 jn (fun (vl : List Int) (vm : Int) (vn : List SInstr) => (
 Option.bind (M_s_l8Emit f (Sl8Maker.mk vl vm vn) (SInstr.mk 14 0 0 (⟨#[]⟩ : ByteArray))) fun z5 =>
 some (z5)
 )) fun J1 => (
 L_s_l8Goals_1 f p_1 J1 f 0 p_0.slots p_0.next p_0.code
 )

theorem r_s_l8Goals (f : Nat) (p_0 : Sl8Maker) (p_1 : (List STerm)) (tk_1 : Tk) (r : Sl8Maker) (hM : M_s_l8Goals f p_0 p_1 = some r) (σ_0 : St) : AC Tryz.prog 73 [(.agg (cl8Maker p_0)), (LTerm p_1 tk_1)] σ_0 (fun v s => v = (.agg (cl8Maker r)) ∧ s = σ_0) := by
 have F_0 := Fr.refl σ_0 []
 unfold M_s_l8Goals at hM
 refine AC.of_body Tryz.func73 rfl rfl (by rfl) (by simp [Tryz.f73]) <| SW.seqR fun K0 hK0 => R.op rfl (a_box (v := (.agg (cl8Maker p_0))) rfl rfl fun a0 σ0 n0 s0 hF0 => ?_)
 have lo0 := F_0.lo1 n0
 have F0 := F_0.andThen hF0 Lo.nil
 refine all8Maker fun a1 σ1 n1 s1 hF1 => ?_
 have ne0 := ne_new n1 s0
 have lo2 := F0.lo1 n1
 have s2 := hF1.keep s0 (by simp)
 have F1 := F0.andThen hF1 Lo.nil
 refine R.done (hK0 _ _ (SW.seqK fun K1 hK1 => ?_))
 obtain ⟨J1, eJ0, hM⟩ := jn_elim hM
 have hJ0 : ∀ (vl : List Int) (vm : Int) (vn : List SInstr) (env0 : Env) (σ2 : St), Fr σ_0 σ2 [] → env0.get 2 = some (.ptr a0 0) → env0.get 4 = some (.ptr a1 0) → σ2 a0 = some (.cells [(LI vl .no), (I vm), (LInstr vn .no)]) → σ2 a1 = some (.cells [(LI ([] : List Int) .full), (I 0), (LInstr ([] : List SInstr) .full)]) → J1 vl vm vn = some r → K1 env0 σ2 := by
  intro vl vm vn env0 σ2 F2 h0 h1 s3 s4 hM
  subst eJ0
  refine hK1 _ _ <| SW.seqR fun K2 hK2 => ld (v := (.agg [(LI vl .no), (I vm), (LInstr vn .no)])) ti103 h0 s3 rfl <| R.op rfl (a_build (cs := [(I 14), (I 0), (I 0), (.str (⟨#[]⟩ : ByteArray))]) ti57 rfl rfl (pc rfl pn) rfl ?_)
  obtain ⟨z5, hr0, hM⟩ := bd hM
  refine cp (r_s_l8Emit f (Sl8Maker.mk vl vm vn) (SInstr.mk 14 0 0 (⟨#[]⟩ : ByteArray)) z5 hr0 _) rfl (oc rfl (oc rfl on)) (LeL.refl _) <| R.op rfl (a_store (cs' := (cl8Maker z5)) ti103 h1 rfl s4 rfl (nb rfl) rfl rfl fun σ3 s5 hF2 => ?_)
  have s6 := hF2.keep s3 (m1 ne0)
  have F3 := F2.andThen hF2 lo2
  refine R.done (hK2 _ _ (SW.ret ?_))
  obtain rfl := si hM
  exact ret_of (rcc ti103 h1 s5 rfl rn) (.agg (cl8Maker z5)) σ_0 (Le.refl _) F3.back ⟨rfl, rfl⟩
 clear eJ0
 refine SW.seqR fun K3 hK3 => sn rfl <| R.done (hK3 _ _ (SW.block (SW.loop (LW.ind (I := fun n2 env1 σ4 => ∃ (v4 : Int) (v5 : List Int) (v6 : Int) (v7 : List SInstr), Fr σ_0 σ4 [] ∧ env1.get 1 = some (LTerm p_1 tk_1) ∧ env1.get 2 = some (.ptr a0 0) ∧ env1.get 4 = some (.ptr a1 0) ∧ env1.get 5 = some (I v4) ∧ σ4 a0 = some (.cells [(LI v5 .no), (I v6), (LInstr v7 .no)]) ∧ σ4 a1 = some (.cells [(LI ([] : List Int) .full), (I 0), (LInstr ([] : List SInstr) .full)]) ∧ L_s_l8Goals_1 f p_1 J1 n2 v4 v5 v6 v7 = some r) ?_ f _ _ ⟨0, p_0.slots, p_0.next, p_0.code, F1, rfl, rfl, rfl, rfl, s2, s1, hM⟩))))
 rintro n2 env1 σ4 ⟨v4, v5, v6, v7, F4, h2, h3, h4, h5, s7, s8, hM⟩
 cases n2 with
 | zero => (rw [L_s_l8Goals_1] at hM; cases hM)
 | succ n2 =>
  rw [L_s_l8Goals_1] at hM
  refine SW.seq <| SW.seqR fun K4 hK4 => mv h5 <| mv h2 <| R.op rfl (a_lenImm ti23 rfl rfl (n := (p_1.length : Int)) (by simp) (it rfl rfl rfl (R.done (hK4 _ _ (SW.cond rfl (fun hb0 => ?_) (fun hb0 => ?_))))))
  · have hM := cT hb0 hM
    refine SW.skip <| SW.seqK fun K5 hK5 => ?_
    obtain ⟨J2, eJ1, hM⟩ := jn_elim hM
    have hJ1 : ∀ (v8 : List Int) (v9 : Int) (va : List SInstr) (env2 : Env) (σ5 : St), Fr σ_0 σ5 [] → env2.get 1 = some (LTerm p_1 tk_1) → env2.get 2 = some (.ptr a0 0) → env2.get 4 = some (.ptr a1 0) → env2.get 5 = some (I v4) → σ5 a0 = some (.cells [(LI v8 .no), (I v9), (LInstr va .no)]) → σ5 a1 = some (.cells [(LI ([] : List Int) .full), (I 0), (LInstr ([] : List SInstr) .full)]) → J2 v8 v9 va = some r → K5 env2 σ5 := by
     intro v8 v9 va env2 σ5 F5 h6 h7 h8 h9 s9 sa hM
     subst eJ1
     refine hK5 _ _ <| SW.region <| mv h9 <| it rfl rfl rfl <| sn rfl <| R.done ?_
     exact ⟨n2, Nat.lt_succ_self _, (IntKind.wrap .i64 (v4 + 1)), v8, v9, va, F5, h6, h7, h8, rfl, s9, sa, hM⟩
    clear eJ1
    refine SW.normK fun K6 hK6 => ?_
    obtain ⟨J3, eJ2, hM⟩ := jn_elim hM
    have hJ2 : ∀ (vb : List Int) (vc : Int) (vd : List SInstr) (env3 : Env) (σ6 : St), Fr σ_0 σ6 [] → env3.get 1 = some (LTerm p_1 tk_1) → env3.get 2 = some (.ptr a0 0) → env3.get 4 = some (.ptr a1 0) → env3.get 5 = some (I v4) → σ6 a0 = some (.cells [(LI vb .no), (I vc), (LInstr vd .no)]) → σ6 a1 = some (.cells [(LI ([] : List Int) .full), (I 0), (LInstr ([] : List SInstr) .full)]) → J3 vb vc vd = some r → K6 env3 σ6 := by
     intro vb vc vd env3 σ6 F6 ha hb hc hd sb sc hM
     subst eJ2
     refine hK6 _ _ ?_
     exact hJ1 vb vc vd _ _ F6 ha hb hc hd sb sc hM
    clear eJ2
    refine SW.block <| SW.seqR fun K7 hK7 => mv h2 <| mv h5 ?_
    obtain ⟨hg0, hM⟩ := gd hM
    obtain ⟨x0, hx0, hM⟩ := bd hM
    refine R.op rfl (a_idxImm (f := eTerm) (xs := p_1) (n := v4) (e := x0) (v := (.agg (cTerm x0))) ti23 rfl ti25 rfl rfl rfl (od hg0) hx0 (eTerm_eq x0) (li (v := (.agg (cTerm x0))) ti25 rfl rfl (alTerm fun a2 σ7 n3 sd hF3 => ?_)))
    have ne1 := ne_new n3 s7
    have ne2 := ne_new n3 s8
    have lo3 := F4.lo1 n3
    have se := hF3.keep s7 (by simp)
    have sf := hF3.keep s8 (by simp)
    have F7 := F4.andThen hF3 Lo.nil
    refine R.op rfl (a_store (cs' := (cTerm x0)) ti25 rfl rfl sd rfl (nb rfl) rfl rfl fun σ8 sg hF4 => ?_)
    have sh := hF4.keep se (m1 ne1)
    have sj := hF4.keep sf (m1 ne2)
    have F8 := F7.andThen hF4 lo3
    refine R.done (hK7 _ _ (SW.seq (SW.seqR fun K8 hK8 => ld (v := (.agg (cTerm x0))) ti25 rfl sg rfl ?_)))
    obtain ⟨z1, hr1, hM⟩ := bd hM
    refine cp (r_s_l4Cut f x0 z1 hr1 _) rfl (oc rfl on) (LeL.refl _) <| R.done (hK8 _ _ (SW.cond rfl (fun hb1 => ?_) (fun hb1 => ?_)))
    · have hM := cT hb1 hM
      refine SW.seqR fun K9 hK9 => ld (v := (.agg [(LI v5 .no), (I v6), (LInstr v7 .no)])) ti103 h3 sh rfl <| R.op rfl (a_build (cs := [(I 13), (I 0), (I 0), (.str (⟨#[]⟩ : ByteArray))]) ti57 rfl rfl (pc rfl pn) rfl ?_)
      obtain ⟨z2, hr2, hM⟩ := bd hM
      refine cp (r_s_l8Emit f (Sl8Maker.mk v5 v6 v7) (SInstr.mk 13 0 0 (⟨#[]⟩ : ByteArray)) z2 hr2 _) rfl (oc rfl (oc rfl on)) (LeL.refl _) <| R.op rfl (a_store (cs' := (cl8Maker z2)) ti103 h3 rfl sh rfl (nb rfl) rfl rfl fun σ9 sk hF5 => ?_)
      have sl := hF5.keep sj (m1 (Ne.symm ne0))
      have F9 := F8.andThen hF5 lo0
      refine R.done (hK9 _ _ (SW.exit (Qte (Qbx ?_))))
      exact hJ2 z2.slots z2.next z2.code _ _ F9 h2 h3 h4 h5 sk sl hM
    · have hM := cF hb1 hM
      refine SW.skip <| SW.seqK fun Ka hKa => ?_
      obtain ⟨J5, eJ3, hM⟩ := jn_elim hM
      have hJ3 : ∀ (ve : List Int) (vf : Int) (vg : List SInstr) (env4 : Env) (σa : St), Fr σ_0 σa [] → env4.get 1 = some (LTerm p_1 tk_1) → env4.get 2 = some (.ptr a0 0) → env4.get 4 = some (.ptr a1 0) → env4.get 5 = some (I v4) → env4.get 6 = some (.ptr a2 0) → σa a0 = some (.cells [(LI ve .no), (I vf), (LInstr vg .no)]) → σa a1 = some (.cells [(LI ([] : List Int) .full), (I 0), (LInstr ([] : List SInstr) .full)]) → σa a2 = some (.cells (cTerm x0)) → J5 ve vf vg = some r → Ka env4 σa := by
       intro ve vf vg env4 σa Fa he hf hg hh hi sm so sp hM
       subst eJ3
       refine hKa _ _ <| SW.seqR fun Kb hKb => sn rfl <| R.done (hKb _ _ (SW.seqK fun Kc hKc => ?_))
       obtain ⟨J4, eJ4, hM⟩ := jn_elim hM
       have hJ4 : ∀ (vh : Int) (env5 : Env) (σb : St), Fr σ_0 σb [] → env5.get 1 = some (LTerm p_1 tk_1) → env5.get 2 = some (.ptr a0 0) → env5.get 4 = some (.ptr a1 0) → env5.get 5 = some (I v4) → env5.get 6 = some (.ptr a2 0) → env5.get 8 = some (I vh) → σb a0 = some (.cells [(LI ve .no), (I vf), (LInstr vg .no)]) → σb a1 = some (.cells [(LI ([] : List Int) .full), (I 0), (LInstr ([] : List SInstr) .full)]) → σb a2 = some (.cells (cTerm x0)) → J4 vh = some r → Kc env5 σb := by
        intro vh env5 σb Fb hj hk hl hm hn ho sq sr ss hM
        subst eJ4
        refine hKc _ _ <| SW.region <| ld (v := (.agg [(LI ve .no), (I vf), (LInstr vg .no)])) ti103 hk sq rfl <| mv ho <| fp ti25 rfl hn rfl (by decide) <| ld ti23 rfl ss rfl <| R.op rfl (a_lenImm ti23 rfl rfl (n := (x0.kids.length : Int)) (by simp) (fp ti25 rfl hn rfl (by decide) (ld ti9 rfl ss rfl (R.op rfl (a_build (cs := [(I vh), (I (x0.kids.length : Int)), (I 0), (.str x0.name)]) ti57 rfl rfl (pc rfl (pc rfl (pc rfl pn))) rfl ?_)))))
        obtain ⟨z3, hr3, hM⟩ := bd hM
        refine cp (r_s_l8Emit f (Sl8Maker.mk ve vf vg) (SInstr.mk vh (x0.kids.length : Int) 0 x0.name) z3 hr3 _) rfl (oc rfl (oc rfl on)) (LeL.refl _) <| R.op rfl (a_store (cs' := (cl8Maker z3)) ti103 hk rfl sq rfl (nb rfl) rfl rfl fun σc st hF6 => ?_)
        have su := hF6.keep sr (m1 (Ne.symm ne0))
        have sv := hF6.keep ss (m1 (Ne.symm ne1))
        have Fc := Fb.andThen hF6 lo0
        refine R.done ?_
        exact hJ2 z3.slots z3.next z3.code _ _ Fc hj hk hl hm st su hM
       clear eJ4
       refine SW.seqR fun Kd hKd => fp ti25 rfl hi rfl (by decide) <| ld ti9 rfl sp rfl <| fp ti25 rfl hi rfl (by decide) <| ld ti23 rfl sp rfl <| R.op rfl (a_lenImm ti23 rfl rfl (n := (x0.kids.length : Int)) (by simp) ?_)
       obtain ⟨z4, hr4, hM⟩ := bd hM
       refine cp (r_s_IsBuiltin f x0.name (x0.kids.length : Int) z4 hr4 _) rfl (oc rfl (oc rfl on)) (LeL.refl _) <| R.done (hKd _ _ (SW.cond rfl (fun hb2 => ?_) (fun hb2 => ?_)))
       · have hM := cT hb2 hM
         refine SW.region <| sn rfl <| R.done ?_
         exact hJ4 12 _ _ Fa he hf hg hh hi rfl sm so sp hM
       · have hM := cF hb2 hM
         refine SW.skip ?_
         exact hJ4 11 _ _ Fa he hf hg hh hi rfl sm so sp hM
      clear eJ3
      refine SW.seqR fun Ke hKe => sn rfl <| R.done (hKe _ _ (SW.normK fun Kf hKf => ?_))
      obtain ⟨J0, eJ5, hM⟩ := jn_elim hM
      have hJ5 : ∀ (vi : List Int) (vj : Int) (vk : List SInstr) (env6 : Env) (σd : St), Fr σ_0 σd [] → env6.get 1 = some (LTerm p_1 tk_1) → env6.get 2 = some (.ptr a0 0) → env6.get 4 = some (.ptr a1 0) → env6.get 5 = some (I v4) → env6.get 6 = some (.ptr a2 0) → σd a0 = some (.cells [(LI vi .no), (I vj), (LInstr vk .no)]) → σd a1 = some (.cells [(LI ([] : List Int) .full), (I 0), (LInstr ([] : List SInstr) .full)]) → σd a2 = some (.cells (cTerm x0)) → J0 vi vj vk = some r → Kf env6 σd := by
       intro vi vj vk env6 σd Fd hp hq hr hs hu sw sx sy hM
       subst eJ5
       refine hKf _ _ ?_
       exact hJ3 vi vj vk _ _ Fd hp hq hr hs hu sw sx sy hM
      clear eJ5
      refine SW.block <| SW.loop <| LW.ind (I := fun n4 env7 σe => ∃ (v0 : Int) (v1 : List Int) (v2 : Int) (v3 : List SInstr), Fr σ_0 σe [] ∧ env7.get 1 = some (LTerm p_1 tk_1) ∧ env7.get 2 = some (.ptr a0 0) ∧ env7.get 4 = some (.ptr a1 0) ∧ env7.get 5 = some (I v4) ∧ env7.get 6 = some (.ptr a2 0) ∧ env7.get 7 = some (I v0) ∧ σe a0 = some (.cells [(LI v1 .no), (I v2), (LInstr v3 .no)]) ∧ σe a1 = some (.cells [(LI ([] : List Int) .full), (I 0), (LInstr ([] : List SInstr) .full)]) ∧ σe a2 = some (.cells (cTerm x0)) ∧ L_s_l8Goals_2 f x0 J0 n4 v0 v1 v2 v3 = some r) ?_ f _ _ ⟨0, v5, v6, v7, F8, h2, h3, h4, h5, rfl, rfl, sh, sj, sg, hM⟩
      rintro n4 env7 σe ⟨v0, v1, v2, v3, Fe, hv, hw, hx, hy, hz, h10, sz, s10, s11, hM⟩
      cases n4 with
      | zero => (rw [L_s_l8Goals_2] at hM; cases hM)
      | succ n4 =>
       rw [L_s_l8Goals_2] at hM
       refine SW.seq <| SW.seqR fun Kg hKg => mv h10 <| fp ti25 rfl hz rfl (by decide) <| ld ti23 rfl s11 rfl <| R.op rfl (a_lenImm ti23 rfl rfl (n := (x0.kids.length : Int)) (by simp) (it rfl rfl rfl (R.done (hKg _ _ (SW.cond rfl (fun hb3 => ?_) (fun hb3 => ?_))))))
       · have hM := cT hb3 hM
         refine SW.skip <| SW.seq <| SW.block <| SW.draw' mixed [(1, false), (3, false), (6, false), (0, false), (2, false), (4, false), (5, false), (7, false), (8, false)] [] [] (by kernel_rfl) (by kernel_rfl) (fun t ht => by simp at ht) <| D.op rfl rfl (a_fieldPtr ti25 rfl hz rfl (by decide) (D.op rfl rfl (a_move h10 (D.op rfl rfl (a_move h10 (D.op rfl rfl (a_loadPtr (v := (.agg [(LI v1 .no), (I v2), (LInstr v3 .no)])) ti103 hw sz rfl (D.op rfl rfl (a_loadPtr ti23 rfl s11 rfl ?_)))))))))
         obtain ⟨hg1, hM⟩ := gd hM
         obtain ⟨x1, hx1, hM⟩ := bd hM
         refine D.op rfl rfl (a_idxImm (f := eTerm) (xs := x0.kids) (n := v0) (e := x1) (v := (.agg (cTerm x1))) ti23 rfl ti25 rfl rfl rfl (od hg1) hx1 (eTerm_eq x1) (D.op rfl rfl (a_loadIptr (v := (.agg (cTerm x1))) ti25 rfl rfl ?_)))
         obtain ⟨z0, hr5, hM⟩ := bd hM
         refine D.op rfl rfl (a_call (g := 119) rfl (oc rfl (oc rfl (oc rfl on))) (AC.goP (r_s_l8Put f (Sl8Maker.mk v1 v2 v3) x1 v0 z0 hr5 _) (LeL.refl _) (D.op rfl rfl (a_store (cs' := (cl8Maker z0)) ti103 hw rfl sz rfl (nb rfl) rfl rfl fun σf s12 hF7 => ?_))))
         have s13 := hF7.keep s10 (m1 (Ne.symm ne0))
         have s14 := hF7.keep s11 (m1 (Ne.symm ne1))
         have Ff := Fe.andThen hF7 lo0
         refine D.done <| SW.region <| mv h10 <| it rfl rfl rfl <| sn rfl <| R.done ?_
         exact ⟨n4, Nat.lt_succ_self _, (IntKind.wrap .i64 (v0 + 1)), z0.slots, z0.next, z0.code, Ff, hv, hw, hx, hy, hz, rfl, s12, s13, s14, hM⟩
       · have hM := cF hb3 hM
         refine SW.exit <| Qte <| Qte <| Qbx ?_
         exact hJ5 v1 v2 v3 _ _ Fe hv hw hx hy hz sz s10 s11 hM
  · have hM := cF hb0 hM
    refine SW.exit <| Qte <| Qte <| Qbx ?_
    exact hJ0 v5 v6 v7 _ _ F4 h3 h4 s7 s8 hM

def L_s_l8Head_1 (f : Nat) (J0 : List Int → Int → List SInstr → Option Sl8Maker) : Nat → List Sleft → Int → List Int → Int → List SInstr → Option Sl8Maker
 | 0, _, _, _, _, _ => none
 | n + 1, v0, v1, v2, v3, v4 =>
 bif decide (v1 < (v0.length : Int)) then (
 bif decide (0 ≤ v1) then
 Option.bind (v0[(v1 : Int).toNat]?) fun x0 =>
 Option.bind (M_s_l8Emit f (Sl8Maker.mk v2 v3 v4) (SInstr.mk 3 (x0.t.kids.length : Int) x0.slot x0.t.name)) fun z0 =>
 Option.bind (M_s_l8Args f z0 x0.t.kids) fun z1 =>
 bif decide (v0.length + z1.2.length ≤ 4294967296) then
 L_s_l8Head_1 f J0 n (v0 ++ z1.2) (IntKind.wrap .i64 (v1 + 1)) z1.1.slots z1.1.next z1.1.code
 else none
 else none
 ) else (
 J0 v2 v3 v4
 )

def L_s_l8Head_2 (f : Nat) (p_1 : (List STerm)) (J1 : List Sleft → List Int → Int → List SInstr → Option Sl8Maker) : Nat → List Sleft → Int → List Int → Int → List SInstr → Option Sl8Maker
 | 0, _, _, _, _, _ => none
 | n + 1, v5, v6, v7, v8, v9 =>
 bif decide (v6 < (p_1.length : Int)) then (
 jn (fun (va : List Sleft) (vb : List Int) (vc : Int) (vd : List SInstr) => (
 L_s_l8Head_2 f p_1 J1 n va (IntKind.wrap .i64 (v6 + 1)) vb vc vd
 )) fun J2 => (
 bif decide (0 ≤ v6) then
 Option.bind (p_1[(v6 : Int).toNat]?) fun x1 =>
 bif (x1.kind == 2) then (
 Option.bind (M_s_l8Emit f (Sl8Maker.mk v7 v8 v9) (SInstr.mk 2 x1.n v6 (⟨#[]⟩ : ByteArray))) fun z2 =>
 J2 v5 z2.slots z2.next z2.code
 ) else (
 jn (fun (ve : Bool) => (
 bif ve then (
 bif decide (0 ≤ x1.n) then
 Option.bind (v7[(x1.n : Int).toNat]?) fun x2 =>
 Option.bind (M_s_l8Emit f (Sl8Maker.mk v7 v8 v9) (SInstr.mk 1 x2 v6 (⟨#[]⟩ : ByteArray))) fun z3 =>
 J2 v5 z3.slots z3.next z3.code
 else none
 ) else (
 bif (x1.kind == 1) then (
 Option.bind (M_s_l8Slot f (Sl8Maker.mk v7 v8 v9) x1.n v6) fun z4 =>
 J2 v5 z4.slots z4.next z4.code
 ) else (
 bif decide (v5.length + ([(Sleft.mk x1 v6)]).length ≤ 4294967296) then
 J2 (v5 ++ ([(Sleft.mk x1 v6)])) v7 v8 v9
 else none
 )
 )
 )) fun J3 => (
 bif (x1.kind == 1) then (
 bif decide (0 ≤ x1.n) then
 Option.bind (v7[(x1.n : Int).toNat]?) fun x3 =>
 J3 (decide (0 ≤ x3))
 else none
 ) else (
 J3 false
 )
 )
 )
 else none
 )
 ) else (
 J1 v5 v7 v8 v9
 )

def M_s_l8Head (f : Nat) (p_0 : Sl8Maker) (p_1 : (List STerm)) : Option Sl8Maker :=
 jn (fun (vf : List Sleft) (vg : List Int) (vh : Int) (vi : List SInstr) => (
 jn (fun (vj : List Int) (vk : Int) (vl : List SInstr) => (
 some ((Sl8Maker.mk vj vk vl))
 )) fun J0 => (
 L_s_l8Head_1 f J0 f vf 0 vg vh vi
 )
 )) fun J1 => (
 L_s_l8Head_2 f p_1 J1 f ([] : List Sleft) 0 p_0.slots p_0.next p_0.code
 )

theorem r_s_l8Head (f : Nat) (p_0 : Sl8Maker) (p_1 : (List STerm)) (tk_1 : Tk) (r : Sl8Maker) (hM : M_s_l8Head f p_0 p_1 = some r) (σ_0 : St) : AC Tryz.prog 74 [(.agg (cl8Maker p_0)), (LTerm p_1 tk_1)] σ_0 (fun v s => v = (.agg (cl8Maker r)) ∧ s = σ_0) := by
 have F_0 := Fr.refl σ_0 []
 unfold M_s_l8Head at hM
 refine AC.of_body Tryz.func74 rfl rfl (by rfl) (by simp [Tryz.f74]) <| SW.seqR fun K0 hK0 => R.op rfl (a_box (v := (.agg (cl8Maker p_0))) rfl rfl fun a0 σ0 n0 s0 hF0 => ?_)
 have lo0 := F_0.lo1 n0
 have F0 := F_0.andThen hF0 Lo.nil
 refine all8Maker fun a1 σ1 n1 s1 hF1 => ?_
 have ne0 := ne_new n1 s0
 have lo2 := F0.lo1 n1
 have s2 := hF1.keep s0 (by simp)
 have F1 := F0.andThen hF1 Lo.nil
 refine R.done (hK0 _ _ (SW.seqR fun K1 hK1 => R.op rfl (a_buildSlice (v := (Lleft ([] : List Sleft) .full)) (bsv_of ti148 rfl ti151 pn rfl ⟨rfl, by decide, by decide, rfl⟩) (sn rfl (R.done (hK1 _ _ (SW.seqK fun K2 hK2 => ?_)))))))
 obtain ⟨J1, eJ0, hM⟩ := jn_elim hM
 have hJ0 : ∀ (vf : List Sleft) (vg : List Int) (vh : Int) (vi : List SInstr) (tk0 : Tk) (env0 : Env) (σ2 : St), Fr σ_0 σ2 [] → env0.get 2 = some (.ptr a0 0) → env0.get 4 = some (.ptr a1 0) → env0.get 5 = some (Lleft vf tk0) → σ2 a0 = some (.cells [(LI vg .no), (I vh), (LInstr vi .no)]) → σ2 a1 = some (.cells [(LI ([] : List Int) .full), (I 0), (LInstr ([] : List SInstr) .full)]) → TokOk σ2 tk0 vf.length 5 → Lo σ_0 [] (tkNames tk0) → J1 vf vg vh vi = some r → K2 env0 σ2 := by
  intro vf vg vh vi tk0 env0 σ2 F2 h0 h1 h2 s3 s4 t0 lo3 hM
  subst eJ0
  refine hK2 _ _ <| SW.seqK fun K3 hK3 => ?_
  obtain ⟨J0, eJ1, hM⟩ := jn_elim hM
  have hJ1 : ∀ (vj : List Int) (vk : Int) (vl : List SInstr) (env1 : Env) (σ3 : St), Fr σ_0 σ3 [] → env1.get 2 = some (.ptr a0 0) → env1.get 4 = some (.ptr a1 0) → σ3 a0 = some (.cells [(LI vj .no), (I vk), (LInstr vl .no)]) → σ3 a1 = some (.cells [(LI ([] : List Int) .full), (I 0), (LInstr ([] : List SInstr) .full)]) → J0 vj vk vl = some r → K3 env1 σ3 := by
   intro vj vk vl env1 σ3 F3 h3 h4 s5 s6 hM
   subst eJ1
   refine hK3 _ _ <| SW.seqR fun K4 hK4 => ld (v := (.agg [(LI vj .no), (I vk), (LInstr vl .no)])) ti103 h3 s5 rfl <| R.op rfl (a_store (cs' := [(LI vj .no), (I vk), (LInstr vl .no)]) ti103 h4 rfl s6 rfl (nb rfl) rfl rfl fun σ4 s7 hF2 => ?_)
   have s8 := hF2.keep s5 (m1 ne0)
   have F4 := F3.andThen hF2 lo2
   refine R.done (hK4 _ _ (SW.ret ?_))
   obtain rfl := si hM
   exact ret_of (rcc ti103 h4 s7 rfl rn) (.agg (cl8Maker (Sl8Maker.mk vj vk vl))) σ_0 (Le.refl _) F4.back ⟨rfl, rfl⟩
  clear eJ1
  refine SW.seqR fun K5 hK5 => sn rfl <| R.done (hK5 _ _ (SW.block (SW.loop (LW.ind (I := fun n2 env2 σ5 => ∃ (v0 : List Sleft) (v1 : Int) (v2 : List Int) (v3 : Int) (v4 : List SInstr) (tk1 : Tk), Fr σ_0 σ5 [] ∧ env2.get 2 = some (.ptr a0 0) ∧ env2.get 4 = some (.ptr a1 0) ∧ env2.get 5 = some (Lleft v0 tk1) ∧ env2.get 8 = some (I v1) ∧ σ5 a0 = some (.cells [(LI v2 .no), (I v3), (LInstr v4 .no)]) ∧ σ5 a1 = some (.cells [(LI ([] : List Int) .full), (I 0), (LInstr ([] : List SInstr) .full)]) ∧ TokOk σ5 tk1 v0.length 5 ∧ Lo σ_0 [] (tkNames tk1) ∧ L_s_l8Head_1 f J0 n2 v0 v1 v2 v3 v4 = some r) ?_ f _ _ ⟨vf, 0, vg, vh, vi, tk0, F2, h0, h1, h2, rfl, s3, s4, (t0.len (by first | rfl | simp)), lo3, hM⟩))))
  rintro n2 env2 σ5 ⟨v0, v1, v2, v3, v4, tk1, F5, h5, h6, h7, h8, s9, sa, t1, lo4, hM⟩
  cases n2 with
  | zero => (rw [L_s_l8Head_1] at hM; cases hM)
  | succ n2 =>
   rw [L_s_l8Head_1] at hM
   refine SW.seq <| SW.seqR fun K6 hK6 => mv h8 <| mv h7 <| R.op rfl (a_lenImm ti148 rfl rfl (n := (v0.length : Int)) (by simp) (it rfl rfl rfl (R.done (hK6 _ _ (SW.cond rfl (fun hb0 => ?_) (fun hb0 => ?_))))))
   · have hM := cT hb0 hM
     refine SW.skip <| SW.seq <| SW.block <| SW.seqR fun K7 hK7 => mv h7 <| mv h8 ?_
     obtain ⟨hg0, hM⟩ := gd hM
     obtain ⟨x0, hx0, hM⟩ := bd hM
     refine R.op rfl (a_idxImm (f := eleft) (xs := v0) (n := v1) (e := x0) (v := (.agg (cleft x0))) ti148 rfl ti151 rfl rfl rfl (od hg0) hx0 rfl (li (v := (.agg (cleft x0))) ti151 rfl rfl (R.allocLe (z := (.agg [(I 0), (I 0), (.str (⟨#[]⟩ : ByteArray)), (.imm 0 [] .full), (I 0)])) (cs := [(I 0), (I 0), (.str (⟨#[]⟩ : ByteArray)), (LTerm ([] : List STerm) .full), (I 0)]) ti151 rfl (LeL.cons (Le.refl _) (LeL.cons (Le.refl _) (LeL.cons (Le.refl _) (LeL.cons (Le.empty' _ _ _ rfl) (LeL.cons (Le.refl _) LeL.nil))))) fun a2 σ6 n3 sb hF3 => ?_)))
     have ne1 := ne_new n3 s9
     have ne2 := ne_new n3 sa
     have lo5 := F5.lo1 n3
     have sc := hF3.keep s9 (by simp)
     have sd := hF3.keep sa (by simp)
     have t2 := t1.keep hF3 (by simp)
     have F6 := F5.andThen hF3 Lo.nil
     refine R.op rfl (a_store (cs' := (cleft x0)) ti151 rfl rfl sb rfl (nb rfl) rfl rfl fun σ7 se hF4 => ?_)
     have sf := hF4.keep sc (m1 ne1)
     have sg := hF4.keep sd (m1 ne2)
     have t3 := t2.keep hF4 (not1 (tok_cells t2 sb))
     have F7 := F6.andThen hF4 lo5
     refine R.done (hK7 _ _ (SW.seqR fun K8 hK8 => ld (v := (.agg [(LI v2 .no), (I v3), (LInstr v4 .no)])) ti103 h5 sf rfl (fp ti151 rfl rfl rfl (by decide) (fp ti25 rfl rfl rfl (by decide) (ld ti23 rfl se rfl (R.op rfl (a_lenImm ti23 rfl rfl (n := (x0.t.kids.length : Int)) (by simp) (fp ti151 rfl rfl rfl (by decide) (ld ti3 rfl se rfl (fp ti151 rfl rfl rfl (by decide) (fp ti25 rfl rfl rfl (by decide) (ld ti9 rfl se rfl (R.op rfl (a_build (cs := [(I 3), (I (x0.t.kids.length : Int)), (I x0.slot), (.str x0.t.name)]) ti57 rfl rfl (pc rfl (pc rfl (pc rfl (pc rfl pn)))) rfl ?_))))))))))))))
     obtain ⟨z0, hr0, hM⟩ := bd hM
     refine cp (r_s_l8Emit f (Sl8Maker.mk v2 v3 v4) (SInstr.mk 3 (x0.t.kids.length : Int) x0.slot x0.t.name) z0 hr0 _) rfl (oc rfl (oc rfl on)) (LeL.refl _) <| R.op rfl (a_store (cs' := (cl8Maker z0)) ti103 h5 rfl sf rfl (nb rfl) rfl rfl fun σ8 sh hF5 => ?_)
     have sj := hF5.keep sg (m1 (Ne.symm ne0))
     have sk := hF5.keep se (m1 (Ne.symm ne1))
     have t4 := t3.keep hF5 (not1 (tok_cells t3 sf))
     have F8 := F7.andThen hF5 lo0
     refine R.done (hK8 _ _ (SW.seqR fun K9 hK9 => ld (v := (.agg (cl8Maker z0))) ti103 h5 sh rfl (fp ti151 rfl rfl rfl (by decide) (fp ti25 rfl rfl rfl (by decide) (ld ti23 rfl sk rfl ?_)))))
     obtain ⟨z1, hr1, hM⟩ := bd hM
     refine cp (r_s_l8Args f z0 x0.t.kids .no z1 hr1 _) rfl (oc rfl (oc rfl on)) (LeL.refl _) <| mv rfl <| ex rfl rfl <| ex rfl rfl <| all8Maker fun a3 σ9 n4 sl hF6 => ?_
     have ne3 := ne_new n4 sj
     have ne4 := ne_new n4 sk
     have ne5 := ne_new n4 sh
     have lo6 := F8.lo1 n4
     have sm := hF6.keep sj (by simp)
     have so := hF6.keep sk (by simp)
     have sp := hF6.keep sh (by simp)
     have t5 := t4.keep hF6 (by simp)
     have F9 := F8.andThen hF6 Lo.nil
     refine R.op rfl (a_store (cs' := (cl8Maker z1.1)) ti103 rfl rfl sl rfl (nb rfl) rfl rfl fun σa sq hF7 => ?_)
     have sr := hF7.keep sm (m1 ne3)
     have ss := hF7.keep so (m1 ne4)
     have st := hF7.keep sp (m1 ne5)
     have t6 := t5.keep hF7 (not1 (tok_cells t5 sl))
     have Fa := F9.andThen hF7 lo6
     refine sn rfl <| R.done (hK9 _ _ (SW.seqR fun Ka hKa => ld (v := (.agg (cl8Maker z1.1))) ti103 rfl sq rfl (R.op rfl (a_store (cs' := (cl8Maker z1.1)) ti103 h5 rfl st rfl (nb rfl) rfl rfl fun σb su hF8 => ?_))))
     have sv := hF8.keep sr (m1 (Ne.symm ne0))
     have sw := hF8.keep sq (m1 (Ne.symm ne5))
     have t7 := t6.keep hF8 (not1 (tok_cells t6 st))
     have Fb := Fa.andThen hF8 lo0
     refine R.done (hKa _ _ (SW.region (mv h7 (mv rfl ?_))))
     obtain ⟨hg1, hM⟩ := gd hM
     refine R.op rfl (a_append (es := List.map eleft v0) (ds := List.map eleft z1.2) (rs := List.map eleft (v0 ++ z1.2)) ti148 rfl ti148 rfl ti151 rfl rfl (.inl rfl) rfl rfl (by decide) (by decide) (by simpa using od hg1) (.inl rfl) (t7.len (by first | rfl | simp)) (by simp) fun tk2 σc t8 hF9 nn0 => ?_)
     have lo7 := Fb.loTk lo4 nn0
     have sx := hF9.keep sv (tok_cells t7 sv)
     have sy := hF9.keep sw (tok_cells t7 sw)
     have sz := hF9.keep su (tok_cells t7 su)
     have Fc := Fb.andThen hF9 lo4
     refine sn rfl <| R.done <| SW.region <| mv h8 <| it rfl rfl rfl <| sn rfl <| R.done ?_
     exact ⟨n2, Nat.lt_succ_self _, (v0 ++ z1.2), (IntKind.wrap .i64 (v1 + 1)), z1.1.slots, z1.1.next, z1.1.code, tk2, Fc, h5, h6, rfl, rfl, sz, sx, (t8.len (by first | rfl | simp)), lo7, hM⟩
   · have hM := cF hb0 hM
     refine SW.exit <| Qte <| Qte <| Qbx ?_
     exact hJ1 v2 v3 v4 _ _ F5 h5 h6 s9 sa hM
 clear eJ0
 refine SW.seqR fun Kb hKb => sn rfl <| R.done (hKb _ _ (SW.block (SW.loop (LW.ind (I := fun n5 env3 σd => ∃ (v5 : List Sleft) (v6 : Int) (v7 : List Int) (v8 : Int) (v9 : List SInstr) (tk3 : Tk), Fr σ_0 σd [] ∧ env3.get 1 = some (LTerm p_1 tk_1) ∧ env3.get 2 = some (.ptr a0 0) ∧ env3.get 4 = some (.ptr a1 0) ∧ env3.get 5 = some (Lleft v5 tk3) ∧ env3.get 6 = some (I v6) ∧ σd a0 = some (.cells [(LI v7 .no), (I v8), (LInstr v9 .no)]) ∧ σd a1 = some (.cells [(LI ([] : List Int) .full), (I 0), (LInstr ([] : List SInstr) .full)]) ∧ TokOk σd tk3 v5.length 5 ∧ Lo σ_0 [] (tkNames tk3) ∧ L_s_l8Head_2 f p_1 J1 n5 v5 v6 v7 v8 v9 = some r) ?_ f _ _ ⟨([] : List Sleft), 0, p_0.slots, p_0.next, p_0.code, .full, F1, rfl, rfl, rfl, rfl, rfl, s2, s1, trivial, Lo.full, hM⟩))))
 rintro n5 env3 σd ⟨v5, v6, v7, v8, v9, tk3, Fd, h9, ha, hb, hc, hd, s10, s11, t9, lo8, hM⟩
 cases n5 with
 | zero => (rw [L_s_l8Head_2] at hM; cases hM)
 | succ n5 =>
  rw [L_s_l8Head_2] at hM
  refine SW.seq <| SW.seqR fun Kc hKc => mv hd <| mv h9 <| R.op rfl (a_lenImm ti23 rfl rfl (n := (p_1.length : Int)) (by simp) (it rfl rfl rfl (R.done (hKc _ _ (SW.cond rfl (fun hb1 => ?_) (fun hb1 => ?_))))))
  · have hM := cT hb1 hM
    refine SW.skip <| SW.seqK fun Kd hKd => ?_
    obtain ⟨J2, eJ2, hM⟩ := jn_elim hM
    have hJ2 : ∀ (va : List Sleft) (vb : List Int) (vc : Int) (vd : List SInstr) (tk4 : Tk) (env4 : Env) (σe : St), Fr σ_0 σe [] → env4.get 1 = some (LTerm p_1 tk_1) → env4.get 2 = some (.ptr a0 0) → env4.get 4 = some (.ptr a1 0) → env4.get 5 = some (Lleft va tk4) → env4.get 6 = some (I v6) → σe a0 = some (.cells [(LI vb .no), (I vc), (LInstr vd .no)]) → σe a1 = some (.cells [(LI ([] : List Int) .full), (I 0), (LInstr ([] : List SInstr) .full)]) → TokOk σe tk4 va.length 5 → Lo σ_0 [] (tkNames tk4) → J2 va vb vc vd = some r → Kd env4 σe := by
     intro va vb vc vd tk4 env4 σe Fe he hf hg hh hi s12 s13 ta lo9 hM
     subst eJ2
     refine hKd _ _ <| SW.region <| mv hi <| it rfl rfl rfl <| sn rfl <| R.done ?_
     exact ⟨n5, Nat.lt_succ_self _, va, (IntKind.wrap .i64 (v6 + 1)), vb, vc, vd, tk4, Fe, he, hf, hg, hh, rfl, s12, s13, (ta.len (by first | rfl | simp)), lo9, hM⟩
    clear eJ2
    refine SW.block <| SW.seqR fun Ke hKe => mv h9 <| mv hd ?_
    obtain ⟨hg2, hM⟩ := gd hM
    obtain ⟨x1, hx1, hM⟩ := bd hM
    refine R.op rfl (a_idxImm (f := eTerm) (xs := p_1) (n := v6) (e := x1) (v := (.agg (cTerm x1))) ti23 rfl ti25 rfl rfl rfl (od hg2) hx1 (eTerm_eq x1) (li (v := (.agg (cTerm x1))) ti25 rfl rfl (alTerm fun a4 σf n6 s14 hFa => ?_)))
    have ne6 := ne_new n6 s10
    have ne7 := ne_new n6 s11
    have loa := Fd.lo1 n6
    have s15 := hFa.keep s10 (by simp)
    have s16 := hFa.keep s11 (by simp)
    have tb := t9.keep hFa (by simp)
    have Ff := Fd.andThen hFa Lo.nil
    refine R.op rfl (a_store (cs' := (cTerm x1)) ti25 rfl rfl s14 rfl (nb rfl) rfl rfl fun σg s17 hFb => ?_)
    have s18 := hFb.keep s15 (m1 ne6)
    have s19 := hFb.keep s16 (m1 ne7)
    have tc := tb.keep hFb (not1 (tok_cells tb s14))
    have Fg := Ff.andThen hFb loa
    refine R.done (hKe _ _ (SW.block (SW.seqR fun Kf hKf => fp ti25 rfl rfl rfl (by decide) (ld ti3 rfl s17 rfl (it rfl rfl rfl (sn rfl (R.done (hKf _ _ (SW.cond rfl (fun hb2 => ?_) (fun hb2 => ?_))))))))))
    · have hM := cT hb2 hM
      refine SW.region <| ld (v := (.agg [(LI v7 .no), (I v8), (LInstr v9 .no)])) ti103 ha s18 rfl <| fp ti25 rfl rfl rfl (by decide) <| ld ti3 rfl s17 rfl <| mv hd <| R.op rfl (a_build (cs := [(I 2), (I x1.n), (I v6), (.str (⟨#[]⟩ : ByteArray))]) ti57 rfl rfl (pc rfl (pc rfl (pc rfl pn))) rfl ?_)
      obtain ⟨z2, hr2, hM⟩ := bd hM
      refine cp (r_s_l8Emit f (Sl8Maker.mk v7 v8 v9) (SInstr.mk 2 x1.n v6 (⟨#[]⟩ : ByteArray)) z2 hr2 _) rfl (oc rfl (oc rfl on)) (LeL.refl _) <| R.op rfl (a_store (cs' := (cl8Maker z2)) ti103 ha rfl s18 rfl (nb rfl) rfl rfl fun σh s1a hFc => ?_)
      have s1b := hFc.keep s19 (m1 (Ne.symm ne0))
      have s1c := hFc.keep s17 (m1 (Ne.symm ne6))
      have td := tc.keep hFc (not1 (tok_cells tc s18))
      have Fh := Fg.andThen hFc lo0
      refine R.done ?_
      exact hJ2 v5 z2.slots z2.next z2.code tk3 _ _ Fh h9 ha hb hc hd s1a s1b (td.len (by first | rfl | simp)) lo8 hM
    · have hM := cF hb2 hM
      refine SW.seqK fun Kg hKg => ?_
      obtain ⟨J3, eJ3, hM⟩ := jn_elim hM
      have hJ3 : ∀ (ve : Bool) (env5 : Env) (σi : St), Fr σ_0 σi [] → env5.get 1 = some (LTerm p_1 tk_1) → env5.get 2 = some (.ptr a0 0) → env5.get 4 = some (.ptr a1 0) → env5.get 5 = some (Lleft v5 tk3) → env5.get 6 = some (I v6) → env5.get 7 = some (.ptr a4 0) → env5.get 39 = some (.bool ve) → σi a0 = some (.cells [(LI v7 .no), (I v8), (LInstr v9 .no)]) → σi a1 = some (.cells [(LI ([] : List Int) .full), (I 0), (LInstr ([] : List SInstr) .full)]) → σi a4 = some (.cells (cTerm x1)) → TokOk σi tk3 v5.length 5 → J3 ve = some r → Kg env5 σi := by
       intro ve env5 σi Fi hj hk hl hm hn ho hp s1d s1e s1f te hM
       subst eJ3
       refine hKg _ _ <| SW.cond hp (fun hb3 => ?_) (fun hb3 => ?_)
       · have hM := cT hb3 hM
         refine SW.draw' mixed [(1, false), (3, false), (7, false), (0, false), (2, false), (4, false), (5, false), (6, false), (8, false), (9, false), (10, false)] [] [] (by kernel_rfl) (by kernel_rfl) (fun t ht => by simp at ht) <| D.op rfl rfl (a_fieldPtr ti103 rfl hk rfl (by decide) (D.op rfl rfl (a_fieldPtr ti25 rfl ho rfl (by decide) (D.op rfl rfl (a_move hn (D.op rfl rfl (a_loadPtr (v := (.agg [(LI v7 .no), (I v8), (LInstr v9 .no)])) ti103 hk s1d rfl (D.op rfl rfl (a_loadPtr ti76 rfl s1d rfl (D.op rfl rfl (a_loadPtr ti3 rfl s1f rfl ?_)))))))))))
         obtain ⟨hg3, hM⟩ := gd hM
         obtain ⟨x2, hx2, hM⟩ := bd hM
         refine D.op rfl rfl (a_idxImm (f := (AV.int .i64)) (xs := v7) (n := x1.n) (e := x2) (v := (I x2)) ti76 rfl ti3 rfl rfl rfl (od hg3) hx2 rfl (D.op rfl rfl (a_loadIptr ti3 rfl rfl (D.op rfl rfl (a_build (cs := [(I 1), (I x2), (I v6), (.str (⟨#[]⟩ : ByteArray))]) ti57 rfl rfl (pc rfl (pc rfl (pc rfl pn))) rfl ?_)))))
         obtain ⟨z3, hr3, hM⟩ := bd hM
         refine D.op rfl rfl (a_call (g := 118) rfl (oc rfl (oc rfl on)) (AC.goP (r_s_l8Emit f (Sl8Maker.mk v7 v8 v9) (SInstr.mk 1 x2 v6 (⟨#[]⟩ : ByteArray)) z3 hr3 _) (LeL.refl _) (D.op rfl rfl (a_store (cs' := (cl8Maker z3)) ti103 hk rfl s1d rfl (nb rfl) rfl rfl fun σj s1g hFd => ?_))))
         have s1h := hFd.keep s1e (m1 (Ne.symm ne0))
         have s1i := hFd.keep s1f (m1 (Ne.symm ne6))
         have tf := te.keep hFd (not1 (tok_cells te s1d))
         have Fj := Fi.andThen hFd lo0
         refine D.done ?_
         exact hJ2 v5 z3.slots z3.next z3.code tk3 _ _ Fj hj hk hl hm hn s1g s1h (tf.len (by first | rfl | simp)) lo8 hM
       · have hM := cF hb3 hM
         refine SW.seqR fun Kh hKh => fp ti25 rfl ho rfl (by decide) <| ld ti3 rfl s1f rfl <| it rfl rfl rfl <| sn rfl <| R.done (hKh _ _ (SW.cond rfl (fun hb4 => ?_) (fun hb4 => ?_)))
         · have hM := cT hb4 hM
           refine SW.region <| ld (v := (.agg [(LI v7 .no), (I v8), (LInstr v9 .no)])) ti103 hk s1d rfl <| fp ti25 rfl ho rfl (by decide) <| ld ti3 rfl s1f rfl <| mv hn ?_
           obtain ⟨z4, hr4, hM⟩ := bd hM
           refine cp (r_s_l8Slot f (Sl8Maker.mk v7 v8 v9) x1.n v6 z4 hr4 _) rfl (oc rfl (oc rfl (oc rfl on))) (LeL.refl _) <| R.op rfl (a_store (cs' := (cl8Maker z4)) ti103 hk rfl s1d rfl (nb rfl) rfl rfl fun σk s1j hFe => ?_)
           have s1k := hFe.keep s1e (m1 (Ne.symm ne0))
           have s1l := hFe.keep s1f (m1 (Ne.symm ne6))
           have tg := te.keep hFe (not1 (tok_cells te s1d))
           have Fk := Fi.andThen hFe lo0
           refine R.done ?_
           exact hJ2 v5 z4.slots z4.next z4.code tk3 _ _ Fk hj hk hl hm hn s1j s1k (tg.len (by first | rfl | simp)) lo8 hM
         · have hM := cF hb4 hM
           refine SW.region <| mv hm <| ld (v := (.agg (cTerm x1))) ti25 ho s1f rfl <| mv hn <| R.op rfl (a_build (cs := [(I x1.kind), (I x1.n), (.str x1.name), (LTerm x1.kids .no), (I v6)]) ti151 rfl rfl (pc rfl (pc rfl pn)) rfl (R.op rfl (a_buildSlice (v := (Lleft ([(Sleft.mk x1 v6)]) .full)) (bsv_of ti148 rfl ti151 (pc rfl pn) rfl ⟨rfl, by decide, by decide, rfl⟩) ?_)))
           obtain ⟨hg4, hM⟩ := gd hM
           refine R.op rfl (a_append (es := List.map eleft v5) (ds := List.map eleft ([(Sleft.mk x1 v6)])) (rs := List.map eleft (v5 ++ ([(Sleft.mk x1 v6)]))) ti148 rfl ti148 rfl ti151 rfl rfl (.inl rfl) rfl rfl (by decide) (by decide) (by simpa using od hg4) (.inl rfl) (te.len (by first | rfl | simp)) (by simp) fun tk5 σl th hFf nn1 => ?_)
           have lob := Fi.loTk lo8 nn1
           have s1m := hFf.keep s1d (tok_cells te s1d)
           have s1n := hFf.keep s1e (tok_cells te s1e)
           have s1o := hFf.keep s1f (tok_cells te s1f)
           have Fl := Fi.andThen hFf lo8
           refine sn rfl <| R.done ?_
           exact hJ2 (v5 ++ ([(Sleft.mk x1 v6)])) v7 v8 v9 tk5 _ _ Fl hj hk hl rfl hn s1m s1n (th.len (by first | rfl | simp)) lob hM
      clear eJ3
      refine SW.region <| fp ti25 rfl rfl rfl (by decide) <| ld ti3 rfl s17 rfl <| it rfl rfl rfl <| mv rfl ?_
      rcases bcase (x1.kind == 1) with hb5 | hb5
      · have hM := cT hb5 hM
        refine R.go (x1.kind == 1) rfl hb5 (a_fieldPtr ti103 rfl ha rfl (by decide) (R.go (x1.kind == 1) rfl hb5 (a_loadPtr ti76 rfl s18 rfl (R.go (x1.kind == 1) rfl hb5 (a_fieldPtr ti25 rfl rfl rfl (by decide) (R.go (x1.kind == 1) rfl hb5 (a_loadPtr ti3 rfl s17 rfl ?_)))))))
        obtain ⟨hg5, hM⟩ := gd hM
        obtain ⟨x3, hx3, hM⟩ := bd hM
        refine R.go (x1.kind == 1) rfl hb5 (a_idxImm (f := (AV.int .i64)) (xs := v7) (n := x1.n) (e := x3) (v := (I x3)) ti76 rfl ti3 rfl rfl rfl (od hg5) hx3 rfl (R.go (x1.kind == 1) rfl hb5 (a_loadIptr ti3 rfl rfl (R.go (x1.kind == 1) rfl hb5 (a_int rfl rfl rfl (R.op rfl (a_pickT rfl hb5 rfl (sn rfl (R.done ?_)))))))))
        exact hJ3 (decide (0 ≤ x3)) _ _ Fg h9 ha hb hc hd rfl rfl s18 s19 s17 (tc.len (by first | rfl | simp)) hM
      · have hM := cF hb5 hM
        refine R.not (x1.kind == 1) rfl hb5 <| R.not (x1.kind == 1) rfl hb5 <| R.not (x1.kind == 1) rfl hb5 <| R.not (x1.kind == 1) rfl hb5 <| R.not (x1.kind == 1) rfl hb5 <| R.not (x1.kind == 1) rfl hb5 <| R.not (x1.kind == 1) rfl hb5 <| R.op rfl (a_pickF rfl hb5 rfl (sn rfl (R.done ?_)))
        exact hJ3 false _ _ Fg h9 ha hb hc hd rfl rfl s18 s19 s17 (tc.len (by first | rfl | simp)) hM
  · have hM := cF hb1 hM
    refine SW.exit <| Qte <| Qte <| Qbx ?_
    exact hJ0 v5 v7 v8 v9 tk3 _ _ Fd ha hb hc s10 s11 (t9.len (by first | rfl | simp)) lo8 hM

def L_s_l8Start_1 (J0 : List Int → Option Sl8Maker) : Nat → Int → List Int → Option Sl8Maker
 | 0, _, _ => none
 | n + 1, v0, v1 =>
 bif decide (v0 ≤ 25) then (
 bif decide (v1.length + ([(-1)]).length ≤ 4294967296) then
 L_s_l8Start_1 J0 n (IntKind.wrap .i64 (v0 + 1)) (v1 ++ ([(-1)]))
 else none
 ) else (
 J0 v1
 )

def M_s_l8Start (f : Nat) : Option Sl8Maker :=
 jn (fun (v2 : List Int) => (
 some ((Sl8Maker.mk v2 4 ([] : List SInstr)))
 )) fun J0 => (
 L_s_l8Start_1 J0 f 0 ([] : List Int)
 )

theorem r_s_l8Start (f : Nat) (r : Sl8Maker) (hM : M_s_l8Start f = some r) (σ_0 : St) : AC Tryz.prog 75 [] σ_0 (fun v s => v = (.agg [(LI r.slots .no), (I r.next), (LInstr r.code .full)]) ∧ s = σ_0) := by
 have F_0 := Fr.refl σ_0 []
 unfold M_s_l8Start at hM
 refine AC.of_body Tryz.func75 rfl rfl (by rfl) (by simp [Tryz.f75]) <| SW.seqR fun K0 hK0 => all8Maker fun a0 σ0 n0 s0 hF0 => ?_
 have lo0 := F_0.lo1 n0
 have F0 := F_0.andThen hF0 Lo.nil
 refine R.done (hK0 _ _ (SW.seqR fun K1 hK1 => R.opLe rfl (a_build (cs := [(.imm 0 [] .full), (I 4), (.imm 0 [] .full)]) ti103 rfl rfl (pc rfl pn) rfl ⟨(.agg [(LI ([] : List Int) .full), (I 4), (LInstr ([] : List SInstr) .full)]), Le.agg (LeL.cons (Le.empty' _ _ _ rfl) (LeL.cons (Le.refl _) (LeL.cons (Le.empty' _ _ _ rfl) LeL.nil))), (all8Maker fun a1 σ1 n1 s1 hF1 => ?_)⟩)))
 have ne0 := ne_new n1 s0
 have lo2 := F0.lo1 n1
 have s2 := hF1.keep s0 (by simp)
 have F1 := F0.andThen hF1 Lo.nil
 refine R.op rfl (a_store (cs' := [(LI ([] : List Int) .full), (I 4), (LInstr ([] : List SInstr) .full)]) ti103 rfl rfl s1 rfl (nb rfl) rfl rfl fun σ2 s3 hF2 => ?_)
 have s4 := hF2.keep s2 (m1 ne0)
 have F2 := F1.andThen hF2 lo2
 refine R.done (hK1 _ _ (SW.seqK fun K2 hK2 => ?_))
 obtain ⟨J0, eJ0, hM⟩ := jn_elim hM
 have hJ0 : ∀ (v2 : List Int) (tk0 : Tk) (env0 : Env) (σ3 : St), Fr σ_0 σ3 [] → env0.get 0 = some (.ptr a0 0) → env0.get 1 = some (.ptr a1 0) → σ3 a0 = some (.cells [(LI ([] : List Int) .full), (I 0), (LInstr ([] : List SInstr) .full)]) → σ3 a1 = some (.cells [(LI v2 tk0), (I 4), (LInstr ([] : List SInstr) .full)]) → TokOk σ3 tk0 v2.length 1 → Lo σ_0 [] (tkNames tk0) → J0 v2 = some r → K2 env0 σ3 := by
  intro v2 tk0 env0 σ3 F3 h0 h1 s5 s6 t0 lo3 hM
  subst eJ0
  refine hK2 _ _ <| SW.seqR fun K3 hK3 => ld (v := (.agg [(LI v2 tk0), (I 4), (LInstr ([] : List SInstr) .full)])) ti103 h1 s6 rfl <| R.op rfl (a_store (cs' := [(LI v2 tk0), (I 4), (LInstr ([] : List SInstr) .full)]) ti103 h0 rfl s5 rfl (nb rfl) rfl rfl fun σ4 s7 hF3 => ?_)
  have s8 := hF3.keep s6 (m1 (Ne.symm ne0))
  have t1 := t0.keep hF3 (not1 (tok_cells t0 s5))
  have F4 := F3.andThen hF3 lo0
  refine R.done (hK3 _ _ (SW.ret ?_))
  obtain rfl := si hM
  exact ret_of (rcc ti103 h0 s7 rfl rn) (.agg [(LI ((Sl8Maker.mk v2 4 ([] : List SInstr)).slots) .no), (I ((Sl8Maker.mk v2 4 ([] : List SInstr)).next)), (LInstr ((Sl8Maker.mk v2 4 ([] : List SInstr)).code) .full)]) σ_0 (Le.agg (LeL.cons (Le.tok _ _ _) (LeL.cons (Le.refl _) (LeL.cons (Le.refl _) LeL.nil)))) F4.back ⟨rfl, rfl⟩
 clear eJ0
 refine SW.seqR fun K4 hK4 => sn rfl <| R.done (hK4 _ _ (SW.block (SW.loop (LW.ind (I := fun n2 env1 σ5 => ∃ (v0 : Int) (v1 : List Int) (tk1 : Tk), Fr σ_0 σ5 [] ∧ env1.get 0 = some (.ptr a0 0) ∧ env1.get 1 = some (.ptr a1 0) ∧ env1.get 2 = some (I v0) ∧ σ5 a0 = some (.cells [(LI ([] : List Int) .full), (I 0), (LInstr ([] : List SInstr) .full)]) ∧ σ5 a1 = some (.cells [(LI v1 tk1), (I 4), (LInstr ([] : List SInstr) .full)]) ∧ TokOk σ5 tk1 v1.length 1 ∧ Lo σ_0 [] (tkNames tk1) ∧ L_s_l8Start_1 J0 n2 v0 v1 = some r) ?_ f _ _ ⟨0, ([] : List Int), .full, F2, rfl, rfl, rfl, s4, s3, trivial, Lo.full, hM⟩))))
 rintro n2 env1 σ5 ⟨v0, v1, tk1, F5, h2, h3, h4, s9, sa, t2, lo4, hM⟩
 cases n2 with
 | zero => (rw [L_s_l8Start_1] at hM; cases hM)
 | succ n2 =>
  rw [L_s_l8Start_1] at hM
  refine SW.seq <| SW.seqR fun K5 hK5 => mv h4 <| it rfl rfl rfl <| R.done (hK5 _ _ (SW.cond rfl (fun hb0 => ?_) (fun hb0 => ?_)))
  · have hM := cT hb0 hM
    refine SW.skip <| SW.seq <| SW.block <| SW.region <| fp ti103 rfl h3 rfl (by decide) <| ld ti76 rfl sa rfl <| R.op rfl (a_buildSlice (v := (LI ([(-1)]) .full)) (bsv_of ti76 rfl ti3 (pc rfl pn) rfl ⟨rfl, by decide, by decide, rfl⟩) ?_)
    obtain ⟨hg0, hM⟩ := gd hM
    refine R.op rfl (a_append (es := List.map (AV.int .i64) v1) (ds := List.map (AV.int .i64) ([(-1)])) (rs := List.map (AV.int .i64) (v1 ++ ([(-1)]))) ti76 rfl ti76 rfl ti3 rfl rfl (.inl rfl) rfl rfl (by decide) (by decide) (by simpa using od hg0) (.inl rfl) (t2.len (by first | rfl | simp)) (by simp) fun tk2 σ6 t3 hF4 nn0 => ?_)
    have lo5 := F5.loTk lo4 nn0
    have sb := hF4.keep s9 (tok_cells t2 s9)
    have sc := hF4.keep sa (tok_cells t2 sa)
    have F6 := F5.andThen hF4 lo4
    refine fp ti103 rfl h3 rfl (by decide) <| R.op rfl (a_store (cs' := [(LI (v1 ++ ([(-1)])) tk2), (I 4), (LInstr ([] : List SInstr) .full)]) ti76 rfl rfl sc rfl (nb rfl) rfl rfl fun σ7 sd hF5 => ?_)
    have se := hF5.keep sb (m1 ne0)
    have t4 := t3.keep hF5 (not1 (tok_cells t3 sc))
    have F7 := F6.andThen hF5 lo2
    refine R.done <| SW.region <| mv h4 <| it rfl rfl rfl <| sn rfl <| R.done ?_
    exact ⟨n2, Nat.lt_succ_self _, (IntKind.wrap .i64 (v0 + 1)), (v1 ++ ([(-1)])), tk2, F7, h2, h3, rfl, se, sd, (t4.len (by first | rfl | simp)), lo5, hM⟩
  · have hM := cF hb0 hM
    refine SW.exit <| Qte <| Qte <| Qbx ?_
    exact hJ0 v1 tk1 _ _ F5 h2 h3 s9 sa (t2.len (by first | rfl | simp)) lo4 hM

def M_s_l8Clause (f : Nat) (p_0 : SClause) : Option (List SInstr) :=
 Option.bind (M_s_l8Start f) fun z0 =>
 Option.bind (M_s_l8Head f z0 p_0.head.kids) fun z1 =>
 Option.bind (M_s_l8Goals f z1 p_0.body) fun z2 =>
 some (z2.code)

theorem r_s_l8Clause (f : Nat) (p_0 : SClause) (r : (List SInstr)) (hM : M_s_l8Clause f p_0 = some r) (σ_0 : St) : AC Tryz.prog 30 [(.agg (cClause p_0))] σ_0 (fun v s => v = (LInstr r .no) ∧ s = σ_0) := by
 have F_0 := Fr.refl σ_0 []
 unfold M_s_l8Clause at hM
 refine AC.of_body Tryz.func30 rfl rfl (by rfl) (by simp [Tryz.f30]) <| SW.seqR fun K0 hK0 => R.op rfl (a_box (v := (.agg (cClause p_0))) rfl rfl fun a0 σ0 n0 s0 hF0 => ?_)
 have lo0 := F_0.lo1 n0
 have F0 := F_0.andThen hF0 Lo.nil
 refine R.opLe rfl (a_assign (v := (.imm 0 [] .full)) rfl ⟨(LInstr ([] : List SInstr) .full), Le.empty' _ _ _ rfl, (R.done (hK0 _ _ (SW.seqK fun K1 hK1 => SW.draw' mixed [(1, false), (2, false), (5, false), (3, true), (6, true), (0, true), (4, true), (7, false), (8, false), (9, false)] [(a0, wLod ⟨1, 24, false, (some (.imm 0 [] .full)), (.slice 25)⟩ 3 (LTerm p_0.head.kids .no)), (a0, wLod ⟨1, 24, false, (some (.imm 0 [] .full)), (.slice 25)⟩ 4 (LTerm p_0.body .no))] [] (by kernel_rfl) (by kernel_rfl) (fun t ht => by simp at ht) (D.op rfl rfl (a_fieldPtr ti27 rfl rfl rfl (by decide) (D.op rfl rfl (a_fieldPtr ti25 rfl rfl rfl (by decide) (D.op rfl rfl (a_fieldPtr ti27 rfl rfl rfl (by decide) (D.rd rfl rfl (wat_lod s0 rfl (wat_lod s0 rfl wat_nil)) (lk_load ti23 rfl (wat_lod s0 rfl (wat_lod s0 rfl wat_nil)) (.head _)) rfl (a_loadPtr ti23 rfl s0 rfl (D.rd rfl rfl (wat_lod s0 rfl (wat_lod s0 rfl wat_nil)) (lk_load ti23 rfl (wat_lod s0 rfl (wat_lod s0 rfl wat_nil)) (.tail _ (.head _))) rfl (a_loadPtr ti23 rfl s0 rfl ?_)))))))))))))⟩)
 obtain ⟨z0, hr0, hM⟩ := bd hM
 refine D.wk rfl rfl (wat_lod s0 rfl (wat_lod s0 rfl wat_nil)) rfl (a_call (g := 75) rfl on (AC.goP (r_s_l8Start f z0 hr0 _) (LeL.refl _) (⟨(wat_lod s0 rfl (wat_lod s0 rfl wat_nil)), ?_⟩)))
 obtain ⟨z1, hr1, hM⟩ := bd hM
 refine D.wk rfl rfl (wat_lod s0 rfl (wat_lod s0 rfl wat_nil)) rfl (a_call (g := 74) rfl (oc rfl (oc rfl on)) (AC.goP (r_s_l8Head f z0 p_0.head.kids .no z1 hr1 _) (LeL.cons (Le.agg (LeL.cons (Le.refl _) (LeL.cons (Le.refl _) (LeL.cons (Le.tok _ _ _) LeL.nil)))) (LeL.cons (Le.refl _) LeL.nil)) (⟨(wat_lod s0 rfl (wat_lod s0 rfl wat_nil)), ?_⟩)))
 obtain ⟨z2, hr2, hM⟩ := bd hM
 refine D.op rfl rfl (a_call (g := 73) rfl (oc rfl (oc rfl on)) (AC.goP (r_s_l8Goals f z1 p_0.body .no z2 hr2 _) (LeL.refl _) (D.op rfl rfl (a_fieldS ti103 rfl rfl rfl rfl (D.op rfl rfl (a_assign rfl (D.done (hK1 _ _ (SW.ret ?_)))))))))
 obtain rfl := si hM
 exact ret_of (rc rfl rn) (LInstr z2.code .no) σ_0 (Le.refl _) F0.back ⟨rfl, rfl⟩

def M_s_CompileClause (f : Nat) (p_0 : SClause) : Option ((List SInstr) × Bool) :=
 Option.bind (M_s_ClauseValid f p_0) fun z0 =>
 bif (!z0) then (
 some (([] : List SInstr), false)
 ) else (
 Option.bind (M_s_l8Clause f p_0) fun z1 =>
 some (z1, true)
 )

theorem r_s_CompileClause (f : Nat) (p_0 : SClause) (r : (List SInstr) × Bool) (hM : M_s_CompileClause f p_0 = some r) (σ_0 : St) : AC Tryz.prog 9 [(.agg (cClause p_0))] σ_0 (fun v s => v = (.tup [(LInstr r.1 .no), (.bool r.2)]) ∧ s = σ_0) := by
 have F_0 := Fr.refl σ_0 []
 unfold M_s_CompileClause at hM
 refine AC.of_body Tryz.func9 rfl rfl (by rfl) (by simp [Tryz.f9]) <| SW.seqR fun K0 hK0 => R.op rfl (a_box (v := (.agg (cClause p_0))) rfl rfl fun a0 σ0 n0 s0 hF0 => ?_)
 have lo0 := F_0.lo1 n0
 have F0 := F_0.andThen hF0 Lo.nil
 refine R.opLe rfl (a_assign (v := (.imm 0 [] .full)) rfl ⟨(LInstr ([] : List SInstr) .full), Le.empty' _ _ _ rfl, (sn rfl (R.done (hK0 _ _ (SW.seq (SW.seqR fun K1 hK1 => ld (v := (.agg (cClause p_0))) ti27 rfl s0 rfl ?_)))))⟩)
 obtain ⟨z0, hr0, hM⟩ := bd hM
 refine cp (r_s_ClauseValid f p_0 z0 hr0 _) rfl (oc rfl on) (LeL.refl _) <| no rfl <| R.done (hK1 _ _ (SW.cond rfl (fun hb0 => ?_) (fun hb0 => ?_)))
 · have hM := cT hb0 hM
   refine SW.seqR fun K2 hK2 => R.op rfl (a_buildSlice (v := (LInstr ([] : List SInstr) .full)) (bsv_of ti31 rfl ti57 pn rfl ⟨rfl, by decide, by decide, rfl⟩) (sn rfl (sn rfl (R.done (hK2 _ _ (SW.ret (Qt ?_)))))))
   obtain rfl := si hM
   exact ret_of (rc rfl (rc rfl rn)) (.tup [(LInstr ([] : List SInstr) .no), (.bool false)]) σ_0 (Le.tup (LeL.cons (Le.tok _ _ _) (LeL.cons (Le.refl _) LeL.nil))) F0.back ⟨rfl, rfl⟩
 · have hM := cF hb0 hM
   refine SW.skip <| SW.seqR fun K3 hK3 => ld (v := (.agg (cClause p_0))) ti27 rfl s0 rfl ?_
   obtain ⟨z1, hr1, hM⟩ := bd hM
   refine cp (r_s_l8Clause f p_0 z1 hr1 _) rfl (oc rfl on) (LeL.refl _) <| sn rfl <| sn rfl <| R.done (hK3 _ _ (SW.ret ?_))
   obtain rfl := si hM
   exact ret_of (rc rfl (rc rfl rn)) (.tup [(LInstr z1 .no), (.bool true)]) σ_0 (Le.refl _) F0.back ⟨rfl, rfl⟩

def L_w_pgCode_1 (p_0 : (List SInstr)) (p_1 : (List SInstr)) (J0 : Unit → Option Bool) : Nat → Int → Option Bool
 | 0, _ => none
 | n + 1, v0 =>
 bif decide (v0 < (p_0.length : Int)) then (
 bif decide (0 ≤ v0) then
 Option.bind (p_0[(v0 : Int).toNat]?) fun x0 =>
 Option.bind (p_1[(v0 : Int).toNat]?) fun x1 =>
 bif (!(x0.op == x1.op && (x0.a == x1.a && (x0.b == x1.b && (decide (x0.name = x1.name) && true))))) then (
 some (false)
 ) else (
 L_w_pgCode_1 p_0 p_1 J0 n (IntKind.wrap .i64 (v0 + 1))
 )
 else none
 ) else (
 J0 ()
 )

def M_w_pgCode (f : Nat) (p_0 : (List SInstr)) (p_1 : (List SInstr)) : Option Bool :=
 bif (!((p_0.length : Int) == (p_1.length : Int))) then (
 some (false)
 ) else (
 jn (fun (_ : Unit) => (
 some (true)
 )) fun J0 => (
 L_w_pgCode_1 p_0 p_1 J0 f 0
 )
 )

theorem r_w_pgCode (f : Nat) (p_0 : (List SInstr)) (tk_0 : Tk) (p_1 : (List SInstr)) (tk_1 : Tk) (r : Bool) (hM : M_w_pgCode f p_0 p_1 = some r) (σ_0 : St) : AC Tryz.prog 10 [(LInstr p_0 tk_0), (LInstr p_1 tk_1)] σ_0 (fun v s => v = (.bool r) ∧ s = σ_0) := by
 have F_0 := Fr.refl σ_0 []
 unfold M_w_pgCode at hM
 refine AC.of_body Tryz.func10 rfl rfl (by rfl) (by simp [Tryz.f10]) <| SW.seqR fun K0 hK0 => sn rfl <| R.done (hK0 _ _ (SW.seq (SW.seqR fun K1 hK1 => mv rfl (R.op rfl (a_lenImm ti31 rfl rfl (n := (p_0.length : Int)) (by simp) (mv rfl (R.op rfl (a_lenImm ti31 rfl rfl (n := (p_1.length : Int)) (by simp) (it rfl rfl rfl (R.done (hK1 _ _ (SW.cond rfl (fun hb0 => ?_) (fun hb0 => ?_)))))))))))))
 · have hM := cT hb0 hM
   refine SW.seqR fun K2 hK2 => sn rfl <| R.done (hK2 _ _ (SW.ret (Qt ?_)))
   obtain rfl := si hM
   exact ret_of (rc rfl rn) (.bool false) σ_0 (Le.refl _) F_0.back ⟨rfl, rfl⟩
 · have hM := cF hb0 hM
   refine SW.skip <| SW.seqK fun K3 hK3 => ?_
   obtain ⟨J0, eJ0, hM⟩ := jn_elim hM
   have hJ0 : ∀  (env0 : Env) (σ0 : St), Fr σ_0 σ0 [] → J0 () = some r → K3 env0 σ0 := by
    intro env0 σ0 F0 hM
    subst eJ0
    refine hK3 _ _ <| SW.seqR fun K4 hK4 => sn rfl <| R.done (hK4 _ _ (SW.ret ?_))
    obtain rfl := si hM
    exact ret_of (rc rfl rn) (.bool true) σ_0 (Le.refl _) F0.back ⟨rfl, rfl⟩
   clear eJ0
   refine SW.seqR fun K5 hK5 => sn rfl <| R.done (hK5 _ _ (SW.block (SW.loop (LW.ind (I := fun n0 env1 σ1 => ∃ (v0 : Int), Fr σ_0 σ1 [] ∧ env1.get 0 = some (LInstr p_0 tk_0) ∧ env1.get 1 = some (LInstr p_1 tk_1) ∧ env1.get 5 = some (I v0) ∧ L_w_pgCode_1 p_0 p_1 J0 n0 v0 = some r) ?_ f _ _ ⟨0, F_0, rfl, rfl, rfl, hM⟩))))
   rintro n0 env1 σ1 ⟨v0, F1, h0, h1, h2, hM⟩
   cases n0 with
   | zero => (rw [L_w_pgCode_1] at hM; cases hM)
   | succ n0 =>
    rw [L_w_pgCode_1] at hM
    refine SW.seq <| SW.seqR fun K6 hK6 => mv h2 <| mv h0 <| R.op rfl (a_lenImm ti31 rfl rfl (n := (p_0.length : Int)) (by simp) (it rfl rfl rfl (R.done (hK6 _ _ (SW.cond rfl (fun hb1 => ?_) (fun hb1 => ?_))))))
    · have hM := cT hb1 hM
      refine SW.skip <| SW.seq <| SW.block <| SW.seqK fun K7 hK7 => SW.draw' mixed [(0, false), (1, false), (2, false), (4, false), (5, false), (6, false), (3, false), (7, false), (8, false)] [] [] (by kernel_rfl) (by kernel_rfl) (fun t ht => by simp at ht) <| D.op rfl rfl (a_move h0 (D.op rfl rfl (a_move h2 ?_)))
      obtain ⟨hg0, hM⟩ := gd hM
      obtain ⟨x0, hx0, hM⟩ := bd hM
      refine D.op rfl rfl (a_idxImm (f := eInstr) (xs := p_0) (n := v0) (e := x0) (v := (.agg (cInstr x0))) ti31 rfl ti57 rfl rfl rfl (od hg0) hx0 rfl (D.op rfl rfl (a_move h1 (D.op rfl rfl (a_move h2 ?_)))))
      obtain ⟨x1, hx1, hM⟩ := bd hM
      refine D.op rfl rfl (a_idxImm (f := eInstr) (xs := p_1) (n := v0) (e := x1) (v := (.agg (cInstr x1))) ti31 rfl ti57 rfl rfl rfl (od hg0) hx1 rfl (D.op rfl rfl (a_loadIptr (v := (.agg (cInstr x0))) ti57 rfl rfl (D.op rfl rfl (a_loadIptr (v := (.agg (cInstr x1))) ti57 rfl rfl (D.op rfl rfl (a_bin (a := (.agg (cInstr x0))) (b := (.agg (cInstr x1))) (v := .bool (!(x0.op == x1.op && (x0.a == x1.a && (x0.b == x1.b && (decide (x0.name = x1.name) && true)))))) rfl rfl (bin_agg ti57 rfl rfl) (D.done (hK7 _ _ (SW.cond rfl (fun hb2 => ?_) (fun hb2 => ?_)))))))))))
      · have hM := cT hb2 hM
        refine SW.seqR fun K8 hK8 => sn rfl <| R.done (hK8 _ _ (SW.ret (Qb (Qt (Qt (Qb (Qt ?_)))))))
        obtain rfl := si hM
        exact ret_of (rc rfl rn) (.bool false) σ_0 (Le.refl _) F1.back ⟨rfl, rfl⟩
      · have hM := cF hb2 hM
        refine SW.skip <| SW.region <| mv h2 <| it rfl rfl rfl <| sn rfl <| R.done ?_
        exact ⟨n0, Nat.lt_succ_self _, (IntKind.wrap .i64 (v0 + 1)), F1, h0, h1, rfl, hM⟩
    · have hM := cF hb1 hM
      refine SW.exit <| Qte <| Qte <| Qbx ?_
      exact hJ0  _ _ F1 hM

def M_w_FnCompileVariant (f : Nat) (p_0 : (List Int)) : Option Bool :=
 bif decide (1048576 < (p_0.length : Int)) then (
 some (true)
 ) else (
 Option.bind (M_s_DrawRenumberClause f p_0) fun z0 =>
 Option.bind (M_i_RenumberClause f z0) fun z1 =>
 Option.bind (M_i_CompileClause f z0) fun z2 =>
 Option.bind (M_i_CompileClause f z1.1) fun z3 =>
 Option.bind (M_s_CompileClause f z0) fun z4 =>
 jn (fun (v0 : Bool) => (
 bif v0 then (
 jn (fun (v1 : Bool) => (
 some (v1)
 )) fun J0 => (
 bif (z2.2 == z4.2) then (
 Option.bind (M_w_pgCode f z2.1 z4.1) fun z5 =>
 J0 z5
 ) else (
 J0 false
 )
 )
 ) else (
 jn (fun (v2 : Bool) => (
 some (v2)
 )) fun J1 => (
 bif z2.2 then (
 bif z3.2 then (
 Option.bind (M_w_pgCode f z2.1 z3.1) fun z6 =>
 J1 z6
 ) else (
 J1 false
 )
 ) else (
 J1 false
 )
 )
 )
 )) fun J2 => (
 bif (!(z2.2 == z4.2)) then (
 J2 true
 ) else (
 Option.bind (M_w_pgCode f z2.1 z4.1) fun z7 =>
 bif (!z7) then (
 J2 true
 ) else (
 J2 (!z1.2)
 )
 )
 )
 )

theorem r_w_FnCompileVariant (f : Nat) (p_0 : (List Int)) (tk_0 : Tk) (r : Bool) (hM : M_w_FnCompileVariant f p_0 = some r) (σ_0 : St) : AC Tryz.prog 3 [(LU p_0 tk_0)] σ_0 (fun v s => v = (.bool r) ∧ s = σ_0) := by
 have F_0 := Fr.refl σ_0 []
 unfold M_w_FnCompileVariant at hM
 refine AC.of_body Tryz.func3 rfl rfl (by rfl) (by simp [Tryz.f3]) <| SW.seqR fun K0 hK0 => sn rfl <| R.done (hK0 _ _ (SW.seq (SW.seqR fun K1 hK1 => mv rfl (R.op rfl (a_lenImm ti22 rfl rfl (n := (p_0.length : Int)) (by simp) (it rfl rfl rfl (R.done (hK1 _ _ (SW.cond rfl (fun hb0 => ?_) (fun hb0 => ?_))))))))))
 · have hM := cT hb0 hM
   refine SW.seqR fun K2 hK2 => sn rfl <| R.done (hK2 _ _ (SW.ret (Qt ?_)))
   obtain rfl := si hM
   exact ret_of (rc rfl rn) (.bool true) σ_0 (Le.refl _) F_0.back ⟨rfl, rfl⟩
 · have hM := cF hb0 hM
   refine SW.skip <| SW.seqR fun K3 hK3 => mv rfl ?_
   obtain ⟨z0, hr0, hM⟩ := bd hM
   refine cp (r_s_DrawRenumberClause f p_0 tk_0 z0 hr0 _) rfl (oc rfl on) (LeL.refl _) <| alClause fun a0 σ0 n0 s0 hF0 => ?_
   have lo0 := F_0.lo1 n0
   have F0 := F_0.andThen hF0 Lo.nil
   refine R.op rfl (a_store (cs' := (cClause z0)) ti27 rfl rfl s0 rfl (nb rfl) rfl rfl fun σ1 s1 hF1 => ?_)
   have F1 := F0.andThen hF1 lo0
   refine R.done (hK3 _ _ (SW.seqR fun K4 hK4 => ld (v := (.agg (cClause z0))) ti27 rfl s1 rfl ?_))
   obtain ⟨z1, hr1, hM⟩ := bd hM
   refine cp (r_i_RenumberClause f z0 z1 hr1 _) rfl (oc rfl on) (LeL.refl _) <| mv rfl <| ex rfl rfl <| ex rfl rfl <| alClause fun a1 σ2 n1 s2 hF2 => ?_
   have ne0 := ne_new n1 s1
   have lo2 := F1.lo1 n1
   have s3 := hF2.keep s1 (by simp)
   have F2 := F1.andThen hF2 Lo.nil
   refine R.op rfl (a_store (cs' := (cClause z1.1)) ti27 rfl rfl s2 rfl (nb rfl) rfl rfl fun σ3 s4 hF3 => ?_)
   have s5 := hF3.keep s3 (m1 ne0)
   have F3 := F2.andThen hF3 lo2
   refine sn rfl <| R.done (hK4 _ _ (SW.seqR fun K5 hK5 => ld (v := (.agg (cClause z0))) ti27 rfl s5 rfl ?_))
   obtain ⟨z2, hr2, hM⟩ := bd hM
   refine cp (r_i_CompileClause f z0 z2 hr2 _) rfl (oc rfl on) (LeL.refl _) <| mv rfl <| ex rfl rfl <| ex rfl rfl <| sn rfl <| sn rfl <| R.done (hK5 _ _ (SW.seqR fun K6 hK6 => ld (v := (.agg (cClause z1.1))) ti27 rfl s4 rfl ?_))
   obtain ⟨z3, hr3, hM⟩ := bd hM
   refine cp (r_i_CompileClause f z1.1 z3 hr3 _) rfl (oc rfl on) (LeL.refl _) <| mv rfl <| ex rfl rfl <| ex rfl rfl <| sn rfl <| sn rfl <| R.done (hK6 _ _ (SW.seqR fun K7 hK7 => ld (v := (.agg (cClause z0))) ti27 rfl s5 rfl ?_))
   obtain ⟨z4, hr4, hM⟩ := bd hM
   refine cp (r_s_CompileClause f z0 z4 hr4 _) rfl (oc rfl on) (LeL.refl _) <| mv rfl <| ex rfl rfl <| ex rfl rfl <| sn rfl <| sn rfl <| R.done (hK7 _ _ (SW.seq (SW.seqK fun K8 hK8 => ?_)))
   obtain ⟨J2, eJ0, hM⟩ := jn_elim hM
   have hJ0 : ∀ (v0 : Bool) (env0 : Env) (σ4 : St), Fr σ_0 σ4 [] → env0.get 6 = some (LInstr z2.1 .no) → env0.get 7 = some (.bool z2.2) → env0.get 8 = some (LInstr z3.1 .no) → env0.get 9 = some (.bool z3.2) → env0.get 10 = some (LInstr z4.1 .no) → env0.get 11 = some (.bool z4.2) → env0.get 49 = some (.bool v0) → J2 v0 = some r → K8 env0 σ4 := by
    intro v0 env0 σ4 F4 h0 h1 h2 h3 h4 h5 h6 hM
    subst eJ0
    refine hK8 _ _ <| SW.cond h6 (fun hb1 => ?_) (fun hb1 => ?_)
    · have hM := cT hb1 hM
      refine SW.seqK fun K9 hK9 => ?_
      obtain ⟨J0, eJ1, hM⟩ := jn_elim hM
      have hJ1 : ∀ (v1 : Bool) (env1 : Env) (σ5 : St), Fr σ_0 σ5 [] → env1.get 2 = some (.bool v1) → J0 v1 = some r → K9 env1 σ5 := by
       intro v1 env1 σ5 F5 h7 hM
       subst eJ1
       refine hK9 _ _ <| SW.ret <| Qt ?_
       obtain rfl := si hM
       exact ret_of (rc h7 rn) (.bool v1) σ_0 (Le.refl _) F5.back ⟨rfl, rfl⟩
      clear eJ1
      refine SW.region <| mv h1 <| mv h5 <| R.op rfl (a_bin (a := (.bool z2.2)) (b := (.bool z4.2)) (v := (.bool (z2.2 == z4.2))) rfl rfl (bin_bool ti4 rfl rfl) (mv rfl ?_))
      rcases bcase (z2.2 == z4.2) with hb2 | hb2
      · have hM := cT hb2 hM
        refine R.go (z2.2 == z4.2) rfl hb2 (a_move h0 (R.go (z2.2 == z4.2) rfl hb2 (a_move h4 ?_)))
        obtain ⟨z5, hr5, hM⟩ := bd hM
        refine R.go (z2.2 == z4.2) rfl hb2 (a_call (g := 10) rfl (oc rfl (oc rfl on)) (AC.goP (r_w_pgCode f z2.1 .no z4.1 .no z5 hr5 _) (LeL.refl _) (R.op rfl (a_pickT rfl hb2 rfl (sn rfl (R.done ?_))))))
        exact hJ1 z5 _ _ F4 rfl hM
      · have hM := cF hb2 hM
        refine R.not (z2.2 == z4.2) rfl hb2 <| R.not (z2.2 == z4.2) rfl hb2 <| R.not (z2.2 == z4.2) rfl hb2 <| R.op rfl (a_pickF rfl hb2 rfl (sn rfl (R.done ?_)))
        exact hJ1 false _ _ F4 rfl hM
    · have hM := cF hb1 hM
      refine SW.skip <| SW.seqK fun Ka hKa => ?_
      obtain ⟨J1, eJ2, hM⟩ := jn_elim hM
      have hJ2 : ∀ (v2 : Bool) (env2 : Env) (σ6 : St), Fr σ_0 σ6 [] → env2.get 2 = some (.bool v2) → J1 v2 = some r → Ka env2 σ6 := by
       intro v2 env2 σ6 F6 h8 hM
       subst eJ2
       refine hKa _ _ <| SW.ret ?_
       obtain rfl := si hM
       exact ret_of (rc h8 rn) (.bool v2) σ_0 (Le.refl _) F6.back ⟨rfl, rfl⟩
      clear eJ2
      refine SW.region <| mv h1 <| mv rfl ?_
      rcases bcase z2.2 with hb3 | hb3
      · have hM := cT hb3 hM
        refine R.go z2.2 rfl hb3 (a_move h3 (R.op rfl (a_pickT rfl hb3 rfl (mv rfl ?_))))
        rcases bcase z3.2 with hb4 | hb4
        · have hM := cT hb4 hM
          refine R.go z3.2 rfl hb4 (a_move h0 (R.go z3.2 rfl hb4 (a_move h2 ?_)))
          obtain ⟨z6, hr6, hM⟩ := bd hM
          refine R.go z3.2 rfl hb4 (a_call (g := 10) rfl (oc rfl (oc rfl on)) (AC.goP (r_w_pgCode f z2.1 .no z3.1 .no z6 hr6 _) (LeL.refl _) (R.op rfl (a_pickT rfl hb4 rfl (sn rfl (R.done ?_))))))
          exact hJ2 z6 _ _ F4 rfl hM
        · have hM := cF hb4 hM
          refine R.not z3.2 rfl hb4 <| R.not z3.2 rfl hb4 <| R.not z3.2 rfl hb4 <| R.op rfl (a_pickF rfl hb4 rfl (sn rfl (R.done ?_)))
          exact hJ2 false _ _ F4 rfl hM
      · have hM := cF hb3 hM
        refine R.not z2.2 rfl hb3 <| R.op rfl (a_pickF rfl hb3 rfl (mv rfl (R.not false rfl rfl (R.not false rfl rfl (R.not false rfl rfl (R.op rfl (a_pickF rfl rfl rfl (sn rfl (R.done ?_)))))))))
        exact hJ2 false _ _ F4 rfl hM
   clear eJ0
   refine SW.region <| mv rfl <| mv rfl <| R.op rfl (a_bin (a := (.bool z2.2)) (b := (.bool z4.2)) (v := (.bool (!(z2.2 == z4.2)))) rfl rfl (bin_bool ti4 rfl rfl) (mv rfl ?_))
   rcases bcase (!(z2.2 == z4.2)) with hb5 | hb5
   · have hM := cT hb5 hM
     refine R.notf (!(z2.2 == z4.2)) rfl hb5 <| R.notf (!(z2.2 == z4.2)) rfl hb5 <| R.notf (!(z2.2 == z4.2)) rfl hb5 <| R.notf (!(z2.2 == z4.2)) rfl hb5 <| R.op rfl (a_pickT rfl hb5 rfl (mv rfl (R.notf true rfl rfl (R.notf true rfl rfl (R.op rfl (a_pickT rfl rfl rfl (R.done ?_)))))))
     exact hJ0 true _ _ F3 rfl rfl rfl rfl rfl rfl rfl hM
   · have hM := cF hb5 hM
     refine R.gof (!(z2.2 == z4.2)) rfl hb5 (a_move rfl (R.gof (!(z2.2 == z4.2)) rfl hb5 (a_move rfl ?_)))
     obtain ⟨z7, hr7, hM⟩ := bd hM
     refine R.gof (!(z2.2 == z4.2)) rfl hb5 (a_call (g := 10) rfl (oc rfl (oc rfl on)) (AC.goP (r_w_pgCode f z2.1 .no z4.1 .no z7 hr7 _) (LeL.refl _) (R.gof (!(z2.2 == z4.2)) rfl hb5 (a_not rfl (R.op rfl (a_pickF rfl hb5 rfl (mv rfl ?_)))))))
     rcases bcase (!z7) with hb6 | hb6
     · have hM := cT hb6 hM
       refine R.notf (!z7) rfl hb6 <| R.notf (!z7) rfl hb6 <| R.op rfl (a_pickT rfl hb6 rfl (R.done ?_))
       exact hJ0 true _ _ F3 rfl rfl rfl rfl rfl rfl rfl hM
     · have hM := cF hb6 hM
       refine R.gof (!z7) rfl hb6 (a_move rfl (R.gof (!z7) rfl hb6 (a_not rfl (R.op rfl (a_pickF rfl hb6 rfl (R.done ?_))))))
       exact hJ0 (!z1.2) _ _ F3 rfl rfl rfl rfl rfl rfl rfl hM

end Go.Am
