/-
  Walks of functions, printed by wip/py/gen2.py.
-/
import Derived.Test.YtbmlendfheakeaaGreatW1
namespace Go.Am
open Go.Proofs
set_option maxRecDepth 100000
set_option linter.unusedVariables false

def L_s_l2Terms_1 (f : Nat) (c_s_l2Read : ByteArray → Int → Int → Int → Option (STerm × Int)) (p_0 : ByteArray) (p_2 : Int) (p_3 : Int) (p_4 : Int) : Nat → Int → List STerm → Option ((List STerm) × Int)
 | 0, _, _ => none
 | n + 1, v0, v1 =>
 Option.bind (c_s_l2Read p_0 v0 p_2 3) fun z0 =>
 bif decide (z0.2 < 0) then (
 some (([] : List STerm), z0.2)
 ) else (
 bif decide (v1.length + ([z0.1]).length ≤ 4294967296) then
 jn (fun (v2 : Bool) => (
 bif v2 then (
 some ((v1 ++ ([z0.1])), z0.2)
 ) else (
 Option.bind (M_s_l1Sign f p_0 z0.2 44) fun z1 =>
 bif (!z1) then (
 some (([] : List STerm), (IntKind.wrap .i64 ((-1) - z0.2)))
 ) else (
 L_s_l2Terms_1 f c_s_l2Read p_0 p_2 p_3 p_4 n (IntKind.wrap .i64 (z0.2 + 1)) (v1 ++ ([z0.1]))
 )
 )
 )) fun J0 => (
 Option.bind (M_s_l1Sign f p_0 z0.2 p_3) fun z2 =>
 bif z2 then (
 J0 true
 ) else (
 Option.bind (M_s_l1Sign f p_0 z0.2 p_4) fun z3 =>
 J0 z3
 )
 )
 else none
 )

def B_s_l2Terms (f : Nat) (c_s_l2Read : ByteArray → Int → Int → Int → Option (STerm × Int)) (c_s_l2Prime : ByteArray → Int → Int → Option (STerm × Int)) (c_s_l2Items : ByteArray → Int → Int → Option (STerm × Int)) (c_s_l2Terms : ByteArray → Int → Int → Int → Int → Option ((List STerm) × Int)) (p_0 : ByteArray) (p_1 : Int) (p_2 : Int) (p_3 : Int) (p_4 : Int) : Option ((List STerm) × Int) :=
 L_s_l2Terms_1 f c_s_l2Read p_0 p_2 p_3 p_4 f p_1 ([] : List STerm)

def L_s_l2Read_1 (f : Nat) (c_s_l2Read : ByteArray → Int → Int → Int → Option (STerm × Int)) (p_0 : ByteArray) (p_2 : Int) (p_3 : Int) (J1 : Int → Int → Int → ByteArray → List STerm → Option (STerm × Int)) : Nat → Int → Int → Int → ByteArray → List STerm → Option (STerm × Int)
 | 0, _, _, _, _, _ => none
 | n + 1, v3, v4, v5, v6, v7 =>
 bif decide (0 ≤ v3) then (
 Option.bind (M_s_l2Op f p_0 v3) fun z4 =>
 jn (fun (v8 : Bool) => (
 bif v8 then (
 some ((STerm.mk v4 v5 v6 v7), v3)
 ) else (
 Option.bind (c_s_l2Read p_0 z4.2 p_2 (IntKind.wrap .i64 (p_3 - 1))) fun z5 =>
 bif decide (z5.2 < 0) then (
 some ((STerm.mk 0 0 (⟨#[]⟩ : ByteArray) ([] : List STerm)), z5.2)
 ) else (
 Option.bind (M_s_l1Struct f z4.1 ([(STerm.mk v4 v5 v6 v7), z5.1])) fun z6 =>
 bif (p_3 == 3) then (
 some (z6, z5.2)
 ) else (
 L_s_l2Read_1 f c_s_l2Read p_0 p_2 p_3 J1 n z5.2 z6.kind z6.n z6.name z6.kids
 )
 )
 )
 )) fun J2 => (
 bif decide (z4.1 = (⟨#[]⟩ : ByteArray)) then (
 J2 true
 ) else (
 Option.bind (M_s_l2Level f z4.1) fun z7 =>
 J2 (!(z7 == p_3))
 )
 )
 ) else (
 J1 v3 v4 v5 v6 v7
 )

def B_s_l2Read (f : Nat) (c_s_l2Read : ByteArray → Int → Int → Int → Option (STerm × Int)) (c_s_l2Prime : ByteArray → Int → Int → Option (STerm × Int)) (c_s_l2Items : ByteArray → Int → Int → Option (STerm × Int)) (c_s_l2Terms : ByteArray → Int → Int → Int → Int → Option ((List STerm) × Int)) (p_0 : ByteArray) (p_1 : Int) (p_2 : Int) (p_3 : Int) : Option (STerm × Int) :=
 bif (p_3 == 0) then (
 Option.bind (c_s_l2Prime p_0 p_1 p_2) fun z8 =>
 some (z8.1, z8.2)
 ) else (
 Option.bind (c_s_l2Read p_0 p_1 p_2 (IntKind.wrap .i64 (p_3 - 1))) fun z9 =>
 jn (fun (v9 : Int) (va : Int) (vb : Int) (vc : ByteArray) (vd : List STerm) => (
 some ((STerm.mk 0 0 (⟨#[]⟩ : ByteArray) ([] : List STerm)), v9)
 )) fun J1 => (
 L_s_l2Read_1 f c_s_l2Read p_0 p_2 p_3 J1 f z9.2 z9.1.kind z9.1.n z9.1.name z9.1.kids
 )
 )

def B_s_l2Prime (f : Nat) (c_s_l2Read : ByteArray → Int → Int → Int → Option (STerm × Int)) (c_s_l2Prime : ByteArray → Int → Int → Option (STerm × Int)) (c_s_l2Items : ByteArray → Int → Int → Option (STerm × Int)) (c_s_l2Terms : ByteArray → Int → Int → Int → Int → Option ((List STerm) × Int)) (p_0 : ByteArray) (p_1 : Int) (p_2 : Int) : Option (STerm × Int) :=
 jn (fun (ve : Bool) => (
 bif ve then (
 Option.bind (M_s_l2Fails f p_1) fun za =>
 some (za.1, za.2)
 ) else (
 bif decide (0 ≤ p_1) then
 Option.bind (p_0.data[(p_1 : Int).toNat]?) fun x0 =>
 bif ((x0.toNat : Int) == 40) then (
 Option.bind (c_s_l2Read p_0 (IntKind.wrap .i64 (p_1 + 1)) p_2 3) fun zb =>
 bif decide (zb.2 < 0) then (
 some ((STerm.mk 0 0 (⟨#[]⟩ : ByteArray) ([] : List STerm)), zb.2)
 ) else (
 Option.bind (M_s_l1Sign f p_0 zb.2 41) fun zc =>
 bif (!zc) then (
 Option.bind (M_s_l2Fails f zb.2) fun zd =>
 some (zd.1, zd.2)
 ) else (
 some (zb.1, (IntKind.wrap .i64 (zb.2 + 1)))
 )
 )
 ) else (
 jn (fun (vf : Bool) => (
 bif vf then (
 Option.bind (c_s_l2Items p_0 (IntKind.wrap .i64 (p_1 + 1)) (IntKind.wrap .i64 (p_2 - 1))) fun ze =>
 some (ze.1, ze.2)
 ) else (
 jn (fun (vg : Bool) => (
 bif vg then (
 Option.bind (p_0.data[(p_1 : Int).toNat]?) fun x1 =>
 Option.bind (M_s_l1Var f (IntKind.wrap .i64 (IntKind.wrap .u8 ((x1.toNat : Int) - 65)))) fun zf =>
 some (zf, (IntKind.wrap .i64 (p_1 + 1)))
 ) else (
 jn (fun (vh : Bool) => (
 bif vh then (
 Option.bind (M_s_l1Number f p_0 p_1) fun zg =>
 bif decide (zg.2 < 0) then (
 Option.bind (M_s_l2Fails f p_1) fun zh =>
 some (zh.1, zh.2)
 ) else (
 some (zg.1, zg.2)
 )
 ) else (
 Option.bind (M_s_l1Name f p_0 p_1) fun zi =>
 bif decide (zi.2 < 0) then (
 Option.bind (M_s_l2Fails f p_1) fun zj =>
 some (zj.1, zj.2)
 ) else (
 Option.bind (M_s_l1Sign f p_0 zi.2 40) fun zk =>
 bif (!zk) then (
 Option.bind (M_s_l1Struct f zi.1 ([] : List STerm)) fun zl =>
 some (zl, zi.2)
 ) else (
 Option.bind (c_s_l2Terms p_0 (IntKind.wrap .i64 (zi.2 + 1)) (IntKind.wrap .i64 (p_2 - 1)) 41 41) fun zm =>
 bif decide (zm.2 < 0) then (
 some ((STerm.mk 0 0 (⟨#[]⟩ : ByteArray) ([] : List STerm)), zm.2)
 ) else (
 some ((STerm.mk 3 0 zi.1 zm.1), (IntKind.wrap .i64 (zm.2 + 1)))
 )
 )
 )
 )
 )) fun J3 => (
 Option.bind (M_s_l1Digit f p_0 p_1) fun zn =>
 bif zn then (
 J3 true
 ) else (
 Option.bind (p_0.data[(p_1 : Int).toNat]?) fun x2 =>
 bif ((x2.toNat : Int) == 45) then (
 Option.bind (M_s_l1Digit f p_0 (IntKind.wrap .i64 (p_1 + 1))) fun zo =>
 J3 zo
 ) else (
 J3 false
 )
 )
 )
 )
 )) fun J4 => (
 Option.bind (p_0.data[(p_1 : Int).toNat]?) fun x3 =>
 bif decide (65 ≤ (x3.toNat : Int)) then (
 Option.bind (p_0.data[(p_1 : Int).toNat]?) fun x4 =>
 J4 (decide ((x4.toNat : Int) ≤ 90))
 ) else (
 J4 false
 )
 )
 )
 )) fun J5 => (
 Option.bind (p_0.data[(p_1 : Int).toNat]?) fun x5 =>
 bif ((x5.toNat : Int) == 91) then (
 Option.bind (M_s_l1Sign f p_0 (IntKind.wrap .i64 (p_1 + 1)) 93) fun zp =>
 J5 (!zp)
 ) else (
 J5 false
 )
 )
 )
 else none
 )
 )) fun J6 => (
 bif decide (p_2 < 1) then (
 J6 true
 ) else (
 J6 (decide ((p_0.size : Int) ≤ p_1))
 )
 )

def B_s_l2Items (f : Nat) (c_s_l2Read : ByteArray → Int → Int → Int → Option (STerm × Int)) (c_s_l2Prime : ByteArray → Int → Int → Option (STerm × Int)) (c_s_l2Items : ByteArray → Int → Int → Option (STerm × Int)) (c_s_l2Terms : ByteArray → Int → Int → Int → Int → Option ((List STerm) × Int)) (p_0 : ByteArray) (p_1 : Int) (p_2 : Int) : Option (STerm × Int) :=
 Option.bind (c_s_l2Terms p_0 p_1 p_2 93 124) fun zq =>
 bif decide (zq.2 < 0) then (
 some ((STerm.mk 0 0 (⟨#[]⟩ : ByteArray) ([] : List STerm)), zq.2)
 ) else (
 Option.bind (M_s_l1Sign f p_0 zq.2 93) fun zr =>
 bif zr then (
 Option.bind (M_s_l1Struct f (⟨#[91, 93]⟩ : ByteArray) ([] : List STerm)) fun zs =>
 Option.bind (M_s_l1Chain f zq.1 zs) fun zt =>
 some (zt, (IntKind.wrap .i64 (zq.2 + 1)))
 ) else (
 Option.bind (c_s_l2Read p_0 (IntKind.wrap .i64 (zq.2 + 1)) p_2 3) fun zu =>
 bif decide (zu.2 < 0) then (
 some ((STerm.mk 0 0 (⟨#[]⟩ : ByteArray) ([] : List STerm)), zu.2)
 ) else (
 Option.bind (M_s_l1Sign f p_0 zu.2 93) fun zv =>
 bif (!zv) then (
 Option.bind (M_s_l2Fails f zu.2) fun zw =>
 some (zw.1, zw.2)
 ) else (
 Option.bind (M_s_l1Chain f zq.1 zu.1) fun zx =>
 some (zx, (IntKind.wrap .i64 (zu.2 + 1)))
 )
 )
 )
 )

mutual
def M_s_l2Terms : Nat → ByteArray → Int → Int → Int → Int → Option ((List STerm) × Int)
 | 0, _, _, _, _, _ => none
 | f + 1, p_0, p_1, p_2, p_3, p_4 => B_s_l2Terms f (M_s_l2Read f) (M_s_l2Prime f) (M_s_l2Items f) (M_s_l2Terms f) p_0 p_1 p_2 p_3 p_4
def M_s_l2Read : Nat → ByteArray → Int → Int → Int → Option (STerm × Int)
 | 0, _, _, _, _ => none
 | f + 1, p_0, p_1, p_2, p_3 => B_s_l2Read f (M_s_l2Read f) (M_s_l2Prime f) (M_s_l2Items f) (M_s_l2Terms f) p_0 p_1 p_2 p_3
def M_s_l2Prime : Nat → ByteArray → Int → Int → Option (STerm × Int)
 | 0, _, _, _ => none
 | f + 1, p_0, p_1, p_2 => B_s_l2Prime f (M_s_l2Read f) (M_s_l2Prime f) (M_s_l2Items f) (M_s_l2Terms f) p_0 p_1 p_2
def M_s_l2Items : Nat → ByteArray → Int → Int → Option (STerm × Int)
 | 0, _, _, _ => none
 | f + 1, p_0, p_1, p_2 => B_s_l2Items f (M_s_l2Read f) (M_s_l2Prime f) (M_s_l2Items f) (M_s_l2Terms f) p_0 p_1 p_2
end

def Q_s_l2Terms (c : ByteArray → Int → Int → Int → Int → Option ((List STerm) × Int)) : Prop := ∀ (p_0 : ByteArray) (p_1 : Int) (p_2 : Int) (p_3 : Int) (p_4 : Int) (r : (List STerm) × Int), c p_0 p_1 p_2 p_3 p_4 = some r → ∀ (σ_0 : St), AC Tryz.prog 172 [(.str p_0), (I p_1), (I p_2), (U p_3), (U p_4)] σ_0 (fun v s => v = (.tup [(LTerm r.1 .no), (I r.2)]) ∧ s = σ_0)

def Q_s_l2Read (c : ByteArray → Int → Int → Int → Option (STerm × Int)) : Prop := ∀ (p_0 : ByteArray) (p_1 : Int) (p_2 : Int) (p_3 : Int) (r : STerm × Int), c p_0 p_1 p_2 p_3 = some r → ∀ (σ_0 : St), AC Tryz.prog 154 [(.str p_0), (I p_1), (I p_2), (I p_3)] σ_0 (fun v s => v = (.tup [(.agg (cTerm r.1)), (I r.2)]) ∧ s = σ_0)

def Q_s_l2Prime (c : ByteArray → Int → Int → Option (STerm × Int)) : Prop := ∀ (p_0 : ByteArray) (p_1 : Int) (p_2 : Int) (r : STerm × Int), c p_0 p_1 p_2 = some r → ∀ (σ_0 : St), AC Tryz.prog 162 [(.str p_0), (I p_1), (I p_2)] σ_0 (fun v s => v = (.tup [(.agg (cTerm r.1)), (I r.2)]) ∧ s = σ_0)

def Q_s_l2Items (c : ByteArray → Int → Int → Option (STerm × Int)) : Prop := ∀ (p_0 : ByteArray) (p_1 : Int) (p_2 : Int) (r : STerm × Int), c p_0 p_1 p_2 = some r → ∀ (σ_0 : St), AC Tryz.prog 168 [(.str p_0), (I p_1), (I p_2)] σ_0 (fun v s => v = (.tup [(.agg (cTerm r.1)), (I r.2)]) ∧ s = σ_0)

theorem b_s_l2Terms (f : Nat) {c_s_l2Read : ByteArray → Int → Int → Int → Option (STerm × Int)} (ih_s_l2Read : Q_s_l2Read c_s_l2Read) {c_s_l2Prime : ByteArray → Int → Int → Option (STerm × Int)} (ih_s_l2Prime : Q_s_l2Prime c_s_l2Prime) {c_s_l2Items : ByteArray → Int → Int → Option (STerm × Int)} (ih_s_l2Items : Q_s_l2Items c_s_l2Items) {c_s_l2Terms : ByteArray → Int → Int → Int → Int → Option ((List STerm) × Int)} (ih_s_l2Terms : Q_s_l2Terms c_s_l2Terms) : Q_s_l2Terms (B_s_l2Terms f c_s_l2Read c_s_l2Prime c_s_l2Items c_s_l2Terms) := by
 intro p_0 p_1 p_2 p_3 p_4 r hM σ_0
 have F_0 := Fr.refl σ_0 []
 unfold B_s_l2Terms at hM
 refine AC.of_body Tryz.func172 rfl rfl (by rfl) (by simp [Tryz.f172]) <| SW.seqR fun K0 hK0 => R.opLe rfl (a_assign (v := (.imm 0 [] .full)) rfl ⟨(LTerm ([] : List STerm) .full), Le.empty' _ _ _ rfl, (sn rfl (R.done (hK0 _ _ (SW.seqR fun K1 hK1 => R.op rfl (a_buildSlice (v := (LTerm ([] : List STerm) .full)) (bsv_of ti23 rfl ti25 pn rfl ⟨rfl, by decide, by decide, rfl⟩) (sn rfl (R.done (hK1 _ _ (SW.block (SW.loop (LW.ind (I := fun n0 env0 σ0 => ∃ (v0 : Int) (v1 : List STerm) (tk0 : Tk), Fr σ_0 σ0 [] ∧ env0.get 0 = some (.str p_0) ∧ env0.get 1 = some (I v0) ∧ env0.get 2 = some (I p_2) ∧ env0.get 3 = some (U p_3) ∧ env0.get 4 = some (U p_4) ∧ env0.get 12 = some (LTerm v1 tk0) ∧ TokOk σ0 tk0 v1.length 4 ∧ Lo σ_0 [] (tkNames tk0) ∧ L_s_l2Terms_1 f c_s_l2Read p_0 p_2 p_3 p_4 n0 v0 v1 = some r) ?_ f _ _ ⟨p_1, ([] : List STerm), .full, F_0, rfl, rfl, rfl, rfl, rfl, rfl, trivial, Lo.full, hM⟩)))))))))))⟩)
 rintro n0 env0 σ0 ⟨v0, v1, tk0, F0, h0, h1, h2, h3, h4, h5, t0, lo0, hM⟩
 cases n0 with
 | zero => (rw [L_s_l2Terms_1] at hM; cases hM)
 | succ n0 =>
  rw [L_s_l2Terms_1] at hM
  refine SW.block <| SW.seqR fun K2 hK2 => mv h0 <| mv h1 <| mv h2 ?_
  obtain ⟨z0, hr0, hM⟩ := bd hM
  refine cp (ih_s_l2Read p_0 v0 p_2 3 z0 hr0 _) rfl (oc rfl (oc rfl (oc rfl (oc rfl on)))) (LeL.refl _) <| mv rfl <| ex rfl rfl <| ex rfl rfl <| alTerm fun a0 σ1 n1 s0 hF0 => ?_
  have lo2 := F0.lo1 n1
  have t1 := t0.keep hF0 (by simp)
  have F1 := F0.andThen hF0 Lo.nil
  refine R.op rfl (a_store (cs' := (cTerm z0.1)) ti25 rfl rfl s0 rfl (nb rfl) rfl rfl fun σ2 s1 hF1 => ?_)
  have t2 := t1.keep hF1 (not1 (tok_cells t1 s0))
  have F2 := F1.andThen hF1 lo2
  refine sn rfl <| R.done (hK2 _ _ (SW.seq (SW.seqR fun K3 hK3 => mv rfl (it rfl rfl rfl (R.done (hK3 _ _ (SW.cond rfl (fun hb0 => ?_) (fun hb0 => ?_))))))))
  · have hM := cT hb0 hM
    refine SW.seqR fun K4 hK4 => mv rfl <| R.opLe rfl (a_assign (v := (.imm 0 [] .full)) rfl ⟨(LTerm ([] : List STerm) .full), Le.empty' _ _ _ rfl, (sn rfl (R.done (hK4 _ _ (SW.ret (Qt (Qb (Qt (Qb ?_))))))))⟩)
    obtain rfl := si hM
    exact ret_of (rc rfl (rc rfl rn)) (.tup [(LTerm ([] : List STerm) .no), (I z0.2)]) σ_0 (Le.tup (LeL.cons (Le.tok _ _ _) (LeL.cons (Le.refl _) LeL.nil))) F2.back ⟨rfl, rfl⟩
  · have hM := cF hb0 hM
    refine SW.skip <| SW.seqR fun K5 hK5 => mv h5 <| ld (v := (.agg (cTerm z0.1))) ti25 rfl s1 rfl <| R.op rfl (a_buildSlice (v := (LTerm ([z0.1]) .full)) (bsv_of' (es := [(.agg (cTerm z0.1))]) ti23 rfl ti25 (pc rfl pn) rfl ⟨rfl, by decide, by decide, rfl⟩ (by simp only [List.map_cons, List.map_nil, eTerm_eq])) ?_)
    obtain ⟨hg0, hM⟩ := gd hM
    refine R.op rfl (a_append (es := List.map eTerm v1) (ds := List.map eTerm ([z0.1])) (rs := List.map eTerm (v1 ++ ([z0.1]))) ti23 rfl ti23 rfl ti25 rfl rfl (.inl rfl) rfl rfl (by decide) (by decide) (by simpa using od hg0) (.inl rfl) (t2.len (by first | rfl | simp)) (by simp) fun tk1 σ3 t3 hF2 nn0 => ?_)
    have lo3 := F2.loTk lo0 nn0
    have s2 := hF2.keep s1 (tok_cells t2 s1)
    have F3 := F2.andThen hF2 lo0
    refine sn rfl <| R.done (hK5 _ _ (SW.seq (SW.seqK fun K6 hK6 => ?_)))
    obtain ⟨J0, eJ0, hM⟩ := jn_elim hM
    have hJ0 : ∀ (v2 : Bool) (env1 : Env) (σ4 : St), Fr σ_0 σ4 [] → env1.get 0 = some (.str p_0) → env1.get 2 = some (I p_2) → env1.get 3 = some (U p_3) → env1.get 4 = some (U p_4) → env1.get 12 = some (LTerm (v1 ++ ([z0.1])) tk1) → env1.get 14 = some (I z0.2) → env1.get 39 = some (.bool v2) → TokOk σ4 tk1 (v1 ++ ([z0.1])).length 4 → J0 v2 = some r → K6 env1 σ4 := by
     intro v2 env1 σ4 F4 h6 h7 h8 h9 ha hb hc t4 hM
     subst eJ0
     refine hK6 _ _ <| SW.cond hc (fun hb1 => ?_) (fun hb1 => ?_)
     · have hM := cT hb1 hM
       refine SW.seqR fun K7 hK7 => mv ha <| mv hb <| sn rfl <| sn rfl <| R.done (hK7 _ _ (SW.ret (Qt (Qb (Qt (Qb ?_))))))
       obtain rfl := si hM
       exact ret_of (rc rfl (rc rfl rn)) (.tup [(LTerm (v1 ++ ([z0.1])) .no), (I z0.2)]) σ_0 (Le.tup (LeL.cons (Le.tok _ _ _) (LeL.cons (Le.refl _) LeL.nil))) F4.back ⟨rfl, rfl⟩
     · have hM := cF hb1 hM
       refine SW.skip <| SW.seq <| SW.seqR fun K8 hK8 => mv h6 <| mv hb ?_
       obtain ⟨z1, hr1, hM⟩ := bd hM
       refine cp (r_s_l1Sign f p_0 z0.2 44 z1 hr1 _) rfl (oc rfl (oc rfl (oc rfl on))) (LeL.refl _) <| no rfl <| R.done (hK8 _ _ (SW.cond rfl (fun hb2 => ?_) (fun hb2 => ?_)))
       · have hM := cT hb2 hM
         refine SW.seqR fun K9 hK9 => mv hb <| it rfl rfl rfl <| R.opLe rfl (a_assign (v := (.imm 0 [] .full)) rfl ⟨(LTerm ([] : List STerm) .full), Le.empty' _ _ _ rfl, (sn rfl (R.done (hK9 _ _ (SW.ret (Qt (Qb (Qt (Qb ?_))))))))⟩)
         obtain rfl := si hM
         exact ret_of (rc rfl (rc rfl rn)) (.tup [(LTerm ([] : List STerm) .no), (I (IntKind.wrap .i64 ((-1) - z0.2)))]) σ_0 (Le.tup (LeL.cons (Le.tok _ _ _) (LeL.cons (Le.refl _) LeL.nil))) F4.back ⟨rfl, rfl⟩
       · have hM := cF hb2 hM
         refine SW.skip <| SW.region <| mv hb <| it rfl rfl rfl <| sn rfl <| R.done ?_
         exact ⟨n0, Nat.lt_succ_self _, (IntKind.wrap .i64 (z0.2 + 1)), (v1 ++ ([z0.1])), tk1, F4, h6, rfl, h7, h8, h9, ha, (t4.len (by first | rfl | simp)), lo3, hM⟩
    clear eJ0
    refine SW.region <| mv h0 <| mv rfl <| mv h3 ?_
    obtain ⟨z2, hr2, hM⟩ := bd hM
    refine cp (r_s_l1Sign f p_0 z0.2 p_3 z2 hr2 _) rfl (oc rfl (oc rfl (oc rfl on))) (LeL.refl _) <| mv rfl ?_
    rcases bcase z2 with hb3 | hb3
    · have hM := cT hb3 hM
      refine R.notf z2 rfl hb3 <| R.notf z2 rfl hb3 <| R.notf z2 rfl hb3 <| R.notf z2 rfl hb3 <| R.op rfl (a_pickT rfl hb3 rfl (R.done ?_))
      exact hJ0 true _ _ F3 h0 h2 h3 h4 rfl rfl rfl (t3.len (by first | rfl | simp)) hM
    · have hM := cF hb3 hM
      refine R.gof z2 rfl hb3 (a_move h0 (R.gof z2 rfl hb3 (a_move rfl (R.gof z2 rfl hb3 (a_move h4 ?_)))))
      obtain ⟨z3, hr3, hM⟩ := bd hM
      refine R.gof z2 rfl hb3 (a_call (g := 155) rfl (oc rfl (oc rfl (oc rfl on))) (AC.goP (r_s_l1Sign f p_0 z0.2 p_4 z3 hr3 _) (LeL.refl _) (R.op rfl (a_pickF rfl hb3 rfl (R.done ?_)))))
      exact hJ0 z3 _ _ F3 h0 h2 h3 h4 rfl rfl rfl (t3.len (by first | rfl | simp)) hM

theorem b_s_l2Read (f : Nat) {c_s_l2Read : ByteArray → Int → Int → Int → Option (STerm × Int)} (ih_s_l2Read : Q_s_l2Read c_s_l2Read) {c_s_l2Prime : ByteArray → Int → Int → Option (STerm × Int)} (ih_s_l2Prime : Q_s_l2Prime c_s_l2Prime) {c_s_l2Items : ByteArray → Int → Int → Option (STerm × Int)} (ih_s_l2Items : Q_s_l2Items c_s_l2Items) {c_s_l2Terms : ByteArray → Int → Int → Int → Int → Option ((List STerm) × Int)} (ih_s_l2Terms : Q_s_l2Terms c_s_l2Terms) : Q_s_l2Read (B_s_l2Read f c_s_l2Read c_s_l2Prime c_s_l2Items c_s_l2Terms) := by
 intro p_0 p_1 p_2 p_3 r hM σ_0
 have F_0 := Fr.refl σ_0 []
 unfold B_s_l2Read at hM
 refine AC.of_body Tryz.func154 rfl rfl (by rfl) (by simp [Tryz.f154]) <| SW.seqR fun K0 hK0 => alTerm fun a1 σ5 n2 s3 hF3 => ?_
 have lo4 := F_0.lo1 n2
 have F5 := F_0.andThen hF3 Lo.nil
 refine sn rfl <| R.done (hK0 _ _ (SW.seq (SW.seqR fun Ka hKa => mv rfl (it rfl rfl rfl (R.done (hKa _ _ (SW.cond rfl (fun hb4 => ?_) (fun hb4 => ?_))))))))
 · have hM := cT hb4 hM
   refine SW.seqR fun Kb hKb => mv rfl <| mv rfl <| mv rfl ?_
   obtain ⟨z8, hr4, hM⟩ := bd hM
   refine cp (ih_s_l2Prime p_0 p_1 p_2 z8 hr4 _) rfl (oc rfl (oc rfl (oc rfl on))) (LeL.refl _) <| ex rfl rfl <| ex rfl rfl <| R.op rfl (a_store (cs' := (cTerm z8.1)) ti25 rfl rfl s3 rfl (nb rfl) rfl rfl fun σ6 s4 hF4 => ?_)
   have F6 := F5.andThen hF4 lo4
   refine sn rfl <| R.done (hKb _ _ (SW.ret (Qt ?_)))
   obtain rfl := si hM
   exact ret_of (rcc ti25 rfl s4 rfl (rc rfl rn)) (.tup [(.agg (cTerm z8.1)), (I z8.2)]) σ_0 (Le.refl _) F6.back ⟨rfl, rfl⟩
 · have hM := cF hb4 hM
   refine SW.skip <| SW.seqR fun Kc hKc => mv rfl <| mv rfl <| mv rfl <| mv rfl <| it rfl rfl rfl ?_
   obtain ⟨z9, hr5, hM⟩ := bd hM
   refine cp (ih_s_l2Read p_0 p_1 p_2 (IntKind.wrap .i64 (p_3 - 1)) z9 hr5 _) rfl (oc rfl (oc rfl (oc rfl (oc rfl on)))) (LeL.refl _) <| mv rfl <| ex rfl rfl <| ex rfl rfl <| alTerm fun a2 σ7 n3 s5 hF5 => ?_
   have ne0 := ne_new n3 s3
   have lo5 := F5.lo1 n3
   have s6 := hF5.keep s3 (by simp)
   have F7 := F5.andThen hF5 Lo.nil
   refine R.op rfl (a_store (cs' := (cTerm z9.1)) ti25 rfl rfl s5 rfl (nb rfl) rfl rfl fun σ8 s7 hF6 => ?_)
   have s8 := hF6.keep s6 (m1 ne0)
   have F8 := F7.andThen hF6 lo5
   refine sn rfl <| R.done (hKc _ _ (SW.seqK fun Kd hKd => ?_))
   obtain ⟨J1, eJ1, hM⟩ := jn_elim hM
   have hJ1 : ∀ (v9 : Int) (va : Int) (vb : Int) (vc : ByteArray) (vd : List STerm) (tk2 : Tk) (env2 : Env) (σ9 : St), Fr σ_0 σ9 [] → env2.get 8 = some (.ptr a1 0) → env2.get 11 = some (I v9) → σ9 a1 = some (.cells [(I 0), (I 0), (.str (⟨#[]⟩ : ByteArray)), (LTerm ([] : List STerm) .full)]) → σ9 a2 = some (.cells [(I va), (I vb), (.str vc), (LTerm vd tk2)]) → J1 v9 va vb vc vd = some r → Kd env2 σ9 := by
    intro v9 va vb vc vd tk2 env2 σ9 F9 hd he s9 sa hM
    subst eJ1
    refine hKd _ _ <| SW.seqR fun Ke hKe => R.opLe rfl (a_build (cs := [(I 0), (I 0), (.str (⟨#[]⟩ : ByteArray)), (.imm 0 [] .full)]) ti25 rfl rfl pn rfl ⟨(.agg [(I 0), (I 0), (.str (⟨#[]⟩ : ByteArray)), (LTerm ([] : List STerm) .full)]), Le.agg (LeL.cons (Le.refl _) (LeL.cons (Le.refl _) (LeL.cons (Le.refl _) (LeL.cons (Le.empty' _ _ _ rfl) LeL.nil)))), (mv he (R.op rfl (a_store (cs' := [(I 0), (I 0), (.str (⟨#[]⟩ : ByteArray)), (LTerm ([] : List STerm) .full)]) ti25 hd rfl s9 rfl (nb rfl) rfl rfl fun σa sb hF7 => ?_)))⟩)
    have Fa := F9.andThen hF7 lo4
    refine sn rfl <| R.done (hKe _ _ (SW.ret ?_))
    obtain rfl := si hM
    exact ret_of (rcc ti25 hd sb rfl (rc rfl rn)) (.tup [(.agg (cTerm (STerm.mk 0 0 (⟨#[]⟩ : ByteArray) ([] : List STerm)))), (I v9)]) σ_0 (Le.tup (LeL.cons (Le.agg (LeL.cons (Le.refl _) (LeL.cons (Le.refl _) (LeL.cons (Le.refl _) (LeL.cons (Le.tok _ _ _) LeL.nil))))) (LeL.cons (Le.refl _) LeL.nil))) Fa.back ⟨rfl, rfl⟩
   clear eJ1
   refine SW.block <| SW.loop <| LW.ind (I := fun n4 env3 σb => ∃ (v3 : Int) (v4 : Int) (v5 : Int) (v6 : ByteArray) (v7 : List STerm) (tk3 : Tk), Fr σ_0 σb [] ∧ env3.get 0 = some (.str p_0) ∧ env3.get 2 = some (I p_2) ∧ env3.get 3 = some (I p_3) ∧ env3.get 8 = some (.ptr a1 0) ∧ env3.get 10 = some (.ptr a2 0) ∧ env3.get 11 = some (I v3) ∧ σb a1 = some (.cells [(I 0), (I 0), (.str (⟨#[]⟩ : ByteArray)), (LTerm ([] : List STerm) .full)]) ∧ σb a2 = some (.cells [(I v4), (I v5), (.str v6), (LTerm v7 tk3)]) ∧ L_s_l2Read_1 f c_s_l2Read p_0 p_2 p_3 J1 n4 v3 v4 v5 v6 v7 = some r) ?_ f _ _ ⟨z9.2, z9.1.kind, z9.1.n, z9.1.name, z9.1.kids, .no, F8, rfl, rfl, rfl, rfl, rfl, rfl, s8, s7, hM⟩
   rintro n4 env3 σb ⟨v3, v4, v5, v6, v7, tk3, Fb, hf, hg, hh, hi, hj, hk, sc, sd, hM⟩
   cases n4 with
   | zero => (rw [L_s_l2Read_1] at hM; cases hM)
   | succ n4 =>
    rw [L_s_l2Read_1] at hM
    refine SW.seq <| SW.seqR fun Kf hKf => mv hk <| it rfl rfl rfl <| R.done (hKf _ _ (SW.cond rfl (fun hb5 => ?_) (fun hb5 => ?_)))
    · have hM := cT hb5 hM
      refine SW.skip <| SW.block <| SW.seqR fun Kg hKg => mv hf <| mv hk ?_
      obtain ⟨z4, hr6, hM⟩ := bd hM
      refine cp (r_s_l2Op f p_0 v3 z4 hr6 _) rfl (oc rfl (oc rfl on)) (LeL.refl _) <| mv rfl <| ex rfl rfl <| ex rfl rfl <| sn rfl <| sn rfl <| R.done (hKg _ _ (SW.seq (SW.seqK fun Kh hKh => ?_)))
      obtain ⟨J2, eJ2, hM⟩ := jn_elim hM
      have hJ2 : ∀ (v8 : Bool) (env4 : Env) (σc : St), Fr σ_0 σc [] → env4.get 0 = some (.str p_0) → env4.get 2 = some (I p_2) → env4.get 3 = some (I p_3) → env4.get 8 = some (.ptr a1 0) → env4.get 10 = some (.ptr a2 0) → env4.get 11 = some (I v3) → env4.get 12 = some (.str z4.1) → env4.get 13 = some (I z4.2) → env4.get 48 = some (.bool v8) → σc a1 = some (.cells [(I 0), (I 0), (.str (⟨#[]⟩ : ByteArray)), (LTerm ([] : List STerm) .full)]) → σc a2 = some (.cells [(I v4), (I v5), (.str v6), (LTerm v7 tk3)]) → J2 v8 = some r → Kh env4 σc := by
       intro v8 env4 σc Fc hl hm hn ho hp hq hr hs ht se sf hM
       subst eJ2
       refine hKh _ _ <| SW.cond ht (fun hb6 => ?_) (fun hb6 => ?_)
       · have hM := cT hb6 hM
         refine SW.seqR fun Ki hKi => ld (v := (.agg [(I v4), (I v5), (.str v6), (LTerm v7 tk3)])) ti25 hp sf rfl <| mv hq <| R.op rfl (a_store (cs' := [(I v4), (I v5), (.str v6), (LTerm v7 tk3)]) ti25 ho rfl se rfl (nb rfl) rfl rfl fun σd sg hF8 => ?_)
         have sh := hF8.keep sf (m1 (Ne.symm ne0))
         have Fd := Fc.andThen hF8 lo4
         refine sn rfl <| R.done (hKi _ _ (SW.ret (Qt (Qb (Qt (Qb (Qt ?_)))))))
         obtain rfl := si hM
         exact ret_of (rcc ti25 ho sg rfl (rc rfl rn)) (.tup [(.agg (cTerm (STerm.mk v4 v5 v6 v7))), (I v3)]) σ_0 (Le.tup (LeL.cons (Le.agg (LeL.cons (Le.refl _) (LeL.cons (Le.refl _) (LeL.cons (Le.refl _) (LeL.cons (Le.tok _ _ _) LeL.nil))))) (LeL.cons (Le.refl _) LeL.nil))) Fd.back ⟨rfl, rfl⟩
       · have hM := cF hb6 hM
         refine SW.skip <| SW.seqR fun Kj hKj => mv hl <| mv hs <| mv hm <| mv hn <| it rfl rfl rfl ?_
         obtain ⟨z5, hr7, hM⟩ := bd hM
         refine cp (ih_s_l2Read p_0 z4.2 p_2 (IntKind.wrap .i64 (p_3 - 1)) z5 hr7 _) rfl (oc rfl (oc rfl (oc rfl (oc rfl on)))) (LeL.refl _) <| mv rfl <| ex rfl rfl <| ex rfl rfl <| alTerm fun a3 σe n5 sj hF9 => ?_
         have ne1 := ne_new n5 se
         have ne2 := ne_new n5 sf
         have lo6 := Fc.lo1 n5
         have sk := hF9.keep se (by simp)
         have sl := hF9.keep sf (by simp)
         have Fe := Fc.andThen hF9 Lo.nil
         refine R.op rfl (a_store (cs' := (cTerm z5.1)) ti25 rfl rfl sj rfl (nb rfl) rfl rfl fun σf sm hFa => ?_)
         have so := hFa.keep sk (m1 ne1)
         have sp := hFa.keep sl (m1 ne2)
         have Ff := Fe.andThen hFa lo6
         refine sn rfl <| R.done (hKj _ _ (SW.seq (SW.seqR fun Kk hKk => mv rfl (it rfl rfl rfl (R.done (hKk _ _ (SW.cond rfl (fun hb7 => ?_) (fun hb7 => ?_))))))))
         · have hM := cT hb7 hM
           refine SW.seqR fun Kl hKl => R.opLe rfl (a_build (cs := [(I 0), (I 0), (.str (⟨#[]⟩ : ByteArray)), (.imm 0 [] .full)]) ti25 rfl rfl pn rfl ⟨(.agg [(I 0), (I 0), (.str (⟨#[]⟩ : ByteArray)), (LTerm ([] : List STerm) .full)]), Le.agg (LeL.cons (Le.refl _) (LeL.cons (Le.refl _) (LeL.cons (Le.refl _) (LeL.cons (Le.empty' _ _ _ rfl) LeL.nil)))), (mv rfl (R.op rfl (a_store (cs' := [(I 0), (I 0), (.str (⟨#[]⟩ : ByteArray)), (LTerm ([] : List STerm) .full)]) ti25 ho rfl so rfl (nb rfl) rfl rfl fun σg sq hFb => ?_)))⟩)
           have Fg := Ff.andThen hFb lo4
           refine sn rfl <| R.done (hKl _ _ (SW.ret (Qt (Qb (Qt (Qb (Qt ?_)))))))
           obtain rfl := si hM
           exact ret_of (rcc ti25 ho sq rfl (rc rfl rn)) (.tup [(.agg (cTerm (STerm.mk 0 0 (⟨#[]⟩ : ByteArray) ([] : List STerm)))), (I z5.2)]) σ_0 (Le.tup (LeL.cons (Le.agg (LeL.cons (Le.refl _) (LeL.cons (Le.refl _) (LeL.cons (Le.refl _) (LeL.cons (Le.tok _ _ _) LeL.nil))))) (LeL.cons (Le.refl _) LeL.nil))) Fg.back ⟨rfl, rfl⟩
         · have hM := cF hb7 hM
           refine SW.skip <| SW.seqR fun Km hKm => mv hr <| ld (v := (.agg [(I v4), (I v5), (.str v6), (LTerm v7 tk3)])) ti25 hp sp rfl <| ld (v := (.agg (cTerm z5.1))) ti25 rfl sm rfl <| R.opLe rfl (a_buildSlice (v := (.imm 4 [(.agg [(I v4), (I v5), (.str v6), (LTerm v7 tk3)]), (.agg (cTerm z5.1))] .full)) (bsv_of (es := [(.agg [(I v4), (I v5), (.str v6), (LTerm v7 tk3)]), (.agg (cTerm z5.1))]) ti23 rfl ti25 (pc rfl (pc rfl pn)) rfl ⟨rfl, by decide, by decide, rfl⟩) ⟨(LTerm ([(STerm.mk v4 v5 v6 v7), z5.1]) .full), Le.elemsF (LeF.cons (Le.trans (Le.agg (LeL.cons (Le.refl _) (LeL.cons (Le.refl _) (LeL.cons (Le.refl _) (LeL.cons (Le.tok _ _ _) LeL.nil))))) (Le.of_eq (eTerm_eq (STerm.mk v4 v5 v6 v7)).symm)) (LeF.cons (Le.of_eq (eTerm_eq z5.1).symm) LeF.nil)), ?_⟩)
           obtain ⟨z6, hr8, hM⟩ := bd hM
           refine cl rfl (oc rfl (oc rfl on)) (AC.go (r_s_l1Struct f z4.1 ([(STerm.mk v4 v5 v6 v7), z5.1]) .full z6 hr8 _) (LeL.refl _) (StLe.refl _) fun v_ σh hp_ => ?_)
           obtain ⟨tk4, rfl, t5, nn1, hFc⟩ := hp_
           have lo7 := Lo.call Ff Lo.nil nn1
           have ss := hFc.keep so (by simp)
           have st := hFc.keep sp (by simp)
           have su := hFc.keep sm (by simp)
           have Fh := Ff.andThen hFc Lo.nil
           refine R.op rfl (a_store (cs' := [(I z6.kind), (I z6.n), (.str z6.name), (LTerm z6.kids tk4)]) ti25 hp rfl st rfl (nb rfl) rfl rfl fun σi sv hFd => ?_)
           have sw := hFd.keep ss (m1 ne0)
           have sx := hFd.keep su (m1 (Ne.symm ne2))
           have t6 := t5.keep hFd (not1 (tok_cells t5 st))
           have Fi := Fh.andThen hFd lo5
           refine R.done (hKm _ _ (SW.seqR fun Kn hKn => mv rfl (sn rfl (R.done (hKn _ _ (SW.seqR fun Ko hKo => mv hn (it rfl rfl rfl (R.done (hKo _ _ (SW.cond rfl (fun hb8 => ?_) (fun hb8 => ?_)))))))))))
           · have hM := cT hb8 hM
             refine SW.seqR fun Kp hKp => ld (v := (.agg [(I z6.kind), (I z6.n), (.str z6.name), (LTerm z6.kids tk4)])) ti25 hp sv rfl <| mv rfl <| R.op rfl (a_store (cs' := [(I z6.kind), (I z6.n), (.str z6.name), (LTerm z6.kids tk4)]) ti25 ho rfl sw rfl (nb rfl) rfl rfl fun σj sy hFe => ?_)
             have sz := hFe.keep sv (m1 (Ne.symm ne0))
             have t7 := t6.keep hFe (not1 (tok_cells t6 sw))
             have Fj := Fi.andThen hFe lo4
             refine sn rfl <| R.done (hKp _ _ (SW.ret (Qb (Qt (Qb (Qt ?_))))))
             obtain rfl := si hM
             exact ret_of (rcc ti25 ho sy rfl (rc rfl rn)) (.tup [(.agg (cTerm z6)), (I z5.2)]) σ_0 (Le.tup (LeL.cons (Le.agg (LeL.cons (Le.refl _) (LeL.cons (Le.refl _) (LeL.cons (Le.refl _) (LeL.cons (Le.tok _ _ _) LeL.nil))))) (LeL.cons (Le.refl _) LeL.nil))) Fj.back ⟨rfl, rfl⟩
           · have hM := cF hb8 hM
             refine SW.skip ?_
             exact ⟨n4, Nat.lt_succ_self _, z5.2, z6.kind, z6.n, z6.name, z6.kids, tk4, Fi, hl, hm, hn, ho, hp, rfl, sw, sv, hM⟩
      clear eJ2
      refine SW.region <| mv rfl <| sr rfl rfl rfl <| mv rfl ?_
      rcases bcase (decide (z4.1 = (⟨#[]⟩ : ByteArray))) with hb9 | hb9
      · have hM := cT hb9 hM
        refine R.notf (decide (z4.1 = (⟨#[]⟩ : ByteArray))) rfl hb9 <| R.notf (decide (z4.1 = (⟨#[]⟩ : ByteArray))) rfl hb9 <| R.notf (decide (z4.1 = (⟨#[]⟩ : ByteArray))) rfl hb9 <| R.notf (decide (z4.1 = (⟨#[]⟩ : ByteArray))) rfl hb9 <| R.op rfl (a_pickT rfl hb9 rfl (R.done ?_))
        exact hJ2 true _ _ Fb hf hg hh hi hj hk rfl rfl rfl sc sd hM
      · have hM := cF hb9 hM
        refine R.gof (decide (z4.1 = (⟨#[]⟩ : ByteArray))) rfl hb9 (a_move rfl ?_)
        obtain ⟨z7, hr9, hM⟩ := bd hM
        refine R.gof (decide (z4.1 = (⟨#[]⟩ : ByteArray))) rfl hb9 (a_call (g := 116) rfl (oc rfl on) (AC.goP (r_s_l2Level f z4.1 z7 hr9 _) (LeL.refl _) (R.gof (decide (z4.1 = (⟨#[]⟩ : ByteArray))) rfl hb9 (a_move hh (R.gof (decide (z4.1 = (⟨#[]⟩ : ByteArray))) rfl hb9 (a_int rfl rfl rfl (R.op rfl (a_pickF rfl hb9 rfl (R.done ?_)))))))))
        exact hJ2 (!(z7 == p_3)) _ _ Fb hf hg hh hi hj hk rfl rfl rfl sc sd hM
    · have hM := cF hb5 hM
      refine SW.exit <| Qte <| Qte <| Qbx ?_
      exact hJ1 v3 v4 v5 v6 v7 tk3 _ _ Fb hi hk sc sd hM

theorem b_s_l2Prime (f : Nat) {c_s_l2Read : ByteArray → Int → Int → Int → Option (STerm × Int)} (ih_s_l2Read : Q_s_l2Read c_s_l2Read) {c_s_l2Prime : ByteArray → Int → Int → Option (STerm × Int)} (ih_s_l2Prime : Q_s_l2Prime c_s_l2Prime) {c_s_l2Items : ByteArray → Int → Int → Option (STerm × Int)} (ih_s_l2Items : Q_s_l2Items c_s_l2Items) {c_s_l2Terms : ByteArray → Int → Int → Int → Int → Option ((List STerm) × Int)} (ih_s_l2Terms : Q_s_l2Terms c_s_l2Terms) : Q_s_l2Prime (B_s_l2Prime f c_s_l2Read c_s_l2Prime c_s_l2Items c_s_l2Terms) := by
 intro p_0 p_1 p_2 r hM σ_0
 have F_0 := Fr.refl σ_0 []
 unfold B_s_l2Prime at hM
 refine AC.of_body Tryz.func162 rfl rfl (by rfl) (by simp [Tryz.f162]) <| SW.seqR fun K0 hK0 => alTerm fun a1 σ5 n2 s3 hF3 => ?_
 have lo4 := F_0.lo1 n2
 have F5 := F_0.andThen hF3 Lo.nil
 refine sn rfl <| R.done (hK0 _ _ (SW.seq (SW.seqK fun Kq hKq => ?_)))
 obtain ⟨J6, eJ3, hM⟩ := jn_elim hM
 have hJ3 : ∀ (ve : Bool) (env5 : Env) (σk : St), Fr σ_0 σk [] → env5.get 0 = some (.str p_0) → env5.get 1 = some (I p_1) → env5.get 2 = some (I p_2) → env5.get 6 = some (.ptr a1 0) → env5.get 23 = some (.bool ve) → σk a1 = some (.cells [(I 0), (I 0), (.str (⟨#[]⟩ : ByteArray)), (LTerm ([] : List STerm) .full)]) → J6 ve = some r → Kq env5 σk := by
  intro ve env5 σk Fk hu hv hw hx hy s10 hM
  subst eJ3
  refine hKq _ _ <| SW.cond hy (fun hba => ?_) (fun hba => ?_)
  · have hM := cT hba hM
    refine SW.seqR fun Kr hKr => mv hv ?_
    obtain ⟨za, hra, hM⟩ := bd hM
    refine cp (r_s_l2Fails f p_1 za hra _) rfl (oc rfl on) (LeL.refl _) <| ex rfl rfl <| ex rfl rfl <| R.op rfl (a_store (cs' := [(I za.1.kind), (I za.1.n), (.str za.1.name), (LTerm za.1.kids .full)]) ti25 hx rfl s10 rfl (nb rfl) rfl rfl fun σl s11 hFf => ?_)
    have F7 := Fk.andThen hFf lo4
    refine sn rfl <| R.done (hKr _ _ (SW.ret (Qt ?_)))
    obtain rfl := si hM
    exact ret_of (rcc ti25 hx s11 rfl (rc rfl rn)) (.tup [(.agg (cTerm za.1)), (I za.2)]) σ_0 (Le.tup (LeL.cons (Le.agg (LeL.cons (Le.refl _) (LeL.cons (Le.refl _) (LeL.cons (Le.refl _) (LeL.cons (Le.tok _ _ _) LeL.nil))))) (LeL.cons (Le.refl _) LeL.nil))) F7.back ⟨rfl, rfl⟩
  · have hM := cF hba hM
    refine SW.skip <| SW.seq <| SW.seqR fun Ks hKs => mv hu <| mv hv ?_
    obtain ⟨hg1, hM⟩ := gd hM
    obtain ⟨x0, hx0, hM⟩ := bd hM
    refine R.op rfl (a_idxStr (n := p_1) (b := x0) ti9 rfl rfl rfl (od hg1) hx0 (it rfl rfl rfl (R.done (hKs _ _ (SW.cond rfl (fun hbb => ?_) (fun hbb => ?_))))))
    · have hM := cT hbb hM
      refine SW.seqR fun Kt hKt => mv hu <| mv hv <| it rfl rfl rfl <| mv hw ?_
      obtain ⟨zb, hrb, hM⟩ := bd hM
      refine cp (ih_s_l2Read p_0 (IntKind.wrap .i64 (p_1 + 1)) p_2 3 zb hrb _) rfl (oc rfl (oc rfl (oc rfl (oc rfl on)))) (LeL.refl _) <| mv rfl <| ex rfl rfl <| ex rfl rfl <| alTerm fun a4 σm n6 s12 hFg => ?_
      have ne3 := ne_new n6 s10
      have lo8 := Fk.lo1 n6
      have s13 := hFg.keep s10 (by simp)
      have Fl := Fk.andThen hFg Lo.nil
      refine R.op rfl (a_store (cs' := (cTerm zb.1)) ti25 rfl rfl s12 rfl (nb rfl) rfl rfl fun σn s14 hFh => ?_)
      have s15 := hFh.keep s13 (m1 ne3)
      have Fm := Fl.andThen hFh lo8
      refine sn rfl <| R.done (hKt _ _ (SW.seq (SW.seqR fun Ku hKu => mv rfl (it rfl rfl rfl (R.done (hKu _ _ (SW.cond rfl (fun hbc => ?_) (fun hbc => ?_))))))))
      · have hM := cT hbc hM
        refine SW.seqR fun Kv hKv => R.opLe rfl (a_build (cs := [(I 0), (I 0), (.str (⟨#[]⟩ : ByteArray)), (.imm 0 [] .full)]) ti25 rfl rfl pn rfl ⟨(.agg [(I 0), (I 0), (.str (⟨#[]⟩ : ByteArray)), (LTerm ([] : List STerm) .full)]), Le.agg (LeL.cons (Le.refl _) (LeL.cons (Le.refl _) (LeL.cons (Le.refl _) (LeL.cons (Le.empty' _ _ _ rfl) LeL.nil)))), (mv rfl (R.op rfl (a_store (cs' := [(I 0), (I 0), (.str (⟨#[]⟩ : ByteArray)), (LTerm ([] : List STerm) .full)]) ti25 hx rfl s15 rfl (nb rfl) rfl rfl fun σo s16 hFi => ?_)))⟩)
        have Fn := Fm.andThen hFi lo4
        refine sn rfl <| R.done (hKv _ _ (SW.ret (Qt (Qt ?_))))
        obtain rfl := si hM
        exact ret_of (rcc ti25 hx s16 rfl (rc rfl rn)) (.tup [(.agg (cTerm (STerm.mk 0 0 (⟨#[]⟩ : ByteArray) ([] : List STerm)))), (I zb.2)]) σ_0 (Le.tup (LeL.cons (Le.agg (LeL.cons (Le.refl _) (LeL.cons (Le.refl _) (LeL.cons (Le.refl _) (LeL.cons (Le.tok _ _ _) LeL.nil))))) (LeL.cons (Le.refl _) LeL.nil))) Fn.back ⟨rfl, rfl⟩
      · have hM := cF hbc hM
        refine SW.skip <| SW.seq <| SW.seqR fun Kw hKw => mv hu <| mv rfl ?_
        obtain ⟨zc, hrc, hM⟩ := bd hM
        refine cp (r_s_l1Sign f p_0 zb.2 41 zc hrc _) rfl (oc rfl (oc rfl (oc rfl on))) (LeL.refl _) <| no rfl <| R.done (hKw _ _ (SW.cond rfl (fun hbd => ?_) (fun hbd => ?_)))
        · have hM := cT hbd hM
          refine SW.seqR fun Kx hKx => mv rfl ?_
          obtain ⟨zd, hrd, hM⟩ := bd hM
          refine cp (r_s_l2Fails f zb.2 zd hrd _) rfl (oc rfl on) (LeL.refl _) <| ex rfl rfl <| ex rfl rfl <| R.op rfl (a_store (cs' := [(I zd.1.kind), (I zd.1.n), (.str zd.1.name), (LTerm zd.1.kids .full)]) ti25 hx rfl s15 rfl (nb rfl) rfl rfl fun σp s17 hFj => ?_)
          have Fo := Fm.andThen hFj lo4
          refine sn rfl <| R.done (hKx _ _ (SW.ret (Qt (Qt ?_))))
          obtain rfl := si hM
          exact ret_of (rcc ti25 hx s17 rfl (rc rfl rn)) (.tup [(.agg (cTerm zd.1)), (I zd.2)]) σ_0 (Le.tup (LeL.cons (Le.agg (LeL.cons (Le.refl _) (LeL.cons (Le.refl _) (LeL.cons (Le.refl _) (LeL.cons (Le.tok _ _ _) LeL.nil))))) (LeL.cons (Le.refl _) LeL.nil))) Fo.back ⟨rfl, rfl⟩
        · have hM := cF hbd hM
          refine SW.skip <| SW.seqR fun Ky hKy => ld (v := (.agg (cTerm zb.1))) ti25 rfl s14 rfl <| mv rfl <| it rfl rfl rfl <| R.op rfl (a_store (cs' := (cTerm zb.1)) ti25 hx rfl s15 rfl (nb rfl) rfl rfl fun σq s18 hFk => ?_)
          have s19 := hFk.keep s14 (m1 (Ne.symm ne3))
          have Fp := Fm.andThen hFk lo4
          refine sn rfl <| R.done (hKy _ _ (SW.ret (Qt ?_)))
          obtain rfl := si hM
          exact ret_of (rcc ti25 hx s18 rfl (rc rfl rn)) (.tup [(.agg (cTerm zb.1)), (I (IntKind.wrap .i64 (zb.2 + 1)))]) σ_0 (Le.refl _) Fp.back ⟨rfl, rfl⟩
    · have hM := cF hbb hM
      refine SW.skip <| SW.seq <| SW.seqK fun Kz hKz => ?_
      obtain ⟨J5, eJ4, hM⟩ := jn_elim hM
      have hJ4 : ∀ (vf : Bool) (env6 : Env) (σr : St), Fr σ_0 σr [] → env6.get 0 = some (.str p_0) → env6.get 1 = some (I p_1) → env6.get 2 = some (I p_2) → env6.get 6 = some (.ptr a1 0) → env6.get 65 = some (.bool vf) → σr a1 = some (.cells [(I 0), (I 0), (.str (⟨#[]⟩ : ByteArray)), (LTerm ([] : List STerm) .full)]) → J5 vf = some r → Kz env6 σr := by
       intro vf env6 σr Fq hz h10 h11 h12 h13 s1a hM
       subst eJ4
       refine hKz _ _ <| SW.cond h13 (fun hbe => ?_) (fun hbe => ?_)
       · have hM := cT hbe hM
         refine SW.seqR fun K10 hK10 => mv hz <| mv h10 <| it rfl rfl rfl <| mv h11 <| it rfl rfl rfl ?_
         obtain ⟨ze, hre, hM⟩ := bd hM
         refine cp (ih_s_l2Items p_0 (IntKind.wrap .i64 (p_1 + 1)) (IntKind.wrap .i64 (p_2 - 1)) ze hre _) rfl (oc rfl (oc rfl (oc rfl on))) (LeL.refl _) <| ex rfl rfl <| ex rfl rfl <| R.op rfl (a_store (cs' := (cTerm ze.1)) ti25 h12 rfl s1a rfl (nb rfl) rfl rfl fun σs s1b hFl => ?_)
         have Fs := Fq.andThen hFl lo4
         refine sn rfl <| R.done (hK10 _ _ (SW.ret (Qt ?_)))
         obtain rfl := si hM
         exact ret_of (rcc ti25 h12 s1b rfl (rc rfl rn)) (.tup [(.agg (cTerm ze.1)), (I ze.2)]) σ_0 (Le.refl _) Fs.back ⟨rfl, rfl⟩
       · have hM := cF hbe hM
         refine SW.skip <| SW.seq <| SW.seqK fun K11 hK11 => ?_
         obtain ⟨J4, eJ5, hM⟩ := jn_elim hM
         have hJ5 : ∀ (vg : Bool) (env7 : Env) (σt : St), Fr σ_0 σt [] → env7.get 0 = some (.str p_0) → env7.get 1 = some (I p_1) → env7.get 2 = some (I p_2) → env7.get 6 = some (.ptr a1 0) → env7.get 83 = some (.bool vg) → σt a1 = some (.cells [(I 0), (I 0), (.str (⟨#[]⟩ : ByteArray)), (LTerm ([] : List STerm) .full)]) → J4 vg = some r → K11 env7 σt := by
          intro vg env7 σt Ft h14 h15 h16 h17 h18 s1c hM
          subst eJ5
          refine hK11 _ _ <| SW.cond h18 (fun hbf => ?_) (fun hbf => ?_)
          · have hM := cT hbf hM
            refine SW.seqR fun K12 hK12 => mv h14 <| mv h15 ?_
            obtain ⟨x1, hx1, hM⟩ := bd hM
            refine R.op rfl (a_idxStr (n := p_1) (b := x1) ti9 rfl rfl rfl (od hg1) hx1 (it rfl rfl rfl (R.op rfl (a_convInt (n := (IntKind.wrap .u8 ((x1.toNat : Int) - 65))) ti5 ti3 rfl rfl rfl ?_))))
            obtain ⟨zf, hrf, hM⟩ := bd hM
            refine cp (r_s_l1Var f (IntKind.wrap .i64 (IntKind.wrap .u8 ((x1.toNat : Int) - 65))) zf hrf _) rfl (oc rfl on) (LeL.refl _) <| mv h15 <| it rfl rfl rfl <| R.op rfl (a_store (cs' := [(I zf.kind), (I zf.n), (.str zf.name), (LTerm zf.kids .full)]) ti25 h17 rfl s1c rfl (nb rfl) rfl rfl fun σu s1d hFm => ?_)
            have Fu := Ft.andThen hFm lo4
            refine sn rfl <| R.done (hK12 _ _ (SW.ret (Qt ?_)))
            obtain rfl := si hM
            exact ret_of (rcc ti25 h17 s1d rfl (rc rfl rn)) (.tup [(.agg (cTerm zf)), (I (IntKind.wrap .i64 (p_1 + 1)))]) σ_0 (Le.tup (LeL.cons (Le.agg (LeL.cons (Le.refl _) (LeL.cons (Le.refl _) (LeL.cons (Le.refl _) (LeL.cons (Le.tok _ _ _) LeL.nil))))) (LeL.cons (Le.refl _) LeL.nil))) Fu.back ⟨rfl, rfl⟩
          · have hM := cF hbf hM
            refine SW.skip <| SW.seq <| SW.seqK fun K13 hK13 => ?_
            obtain ⟨J3, eJ6, hM⟩ := jn_elim hM
            have hJ6 : ∀ (vh : Bool) (env8 : Env) (σv : St), Fr σ_0 σv [] → env8.get 0 = some (.str p_0) → env8.get 1 = some (I p_1) → env8.get 2 = some (I p_2) → env8.get 6 = some (.ptr a1 0) → env8.get 106 = some (.bool vh) → σv a1 = some (.cells [(I 0), (I 0), (.str (⟨#[]⟩ : ByteArray)), (LTerm ([] : List STerm) .full)]) → J3 vh = some r → K13 env8 σv := by
             intro vh env8 σv Fv h19 h1a h1b h1c h1d s1e hM
             subst eJ6
             refine hK13 _ _ <| SW.cond h1d (fun hbg => ?_) (fun hbg => ?_)
             · have hM := cT hbg hM
               refine SW.seqR fun K14 hK14 => mv h19 <| mv h1a ?_
               obtain ⟨zg, hrg, hM⟩ := bd hM
               refine cp (r_s_l1Number f p_0 p_1 zg hrg _) rfl (oc rfl (oc rfl on)) (LeL.refl _) <| mv rfl <| ex rfl rfl <| ex rfl rfl <| alTerm fun a5 σw n7 s1f hFn => ?_
               have ne4 := ne_new n7 s1e
               have lo9 := Fv.lo1 n7
               have s1g := hFn.keep s1e (by simp)
               have Fw := Fv.andThen hFn Lo.nil
               refine R.op rfl (a_store (cs' := [(I zg.1.kind), (I zg.1.n), (.str zg.1.name), (LTerm zg.1.kids .full)]) ti25 rfl rfl s1f rfl (nb rfl) rfl rfl fun σx s1h hFo => ?_)
               have s1i := hFo.keep s1g (m1 ne4)
               have Fx := Fw.andThen hFo lo9
               refine sn rfl <| R.done (hK14 _ _ (SW.seq (SW.seqR fun K15 hK15 => mv rfl (it rfl rfl rfl (R.done (hK15 _ _ (SW.cond rfl (fun hbh => ?_) (fun hbh => ?_))))))))
               · have hM := cT hbh hM
                 refine SW.seqR fun K16 hK16 => mv h1a ?_
                 obtain ⟨zh, hrh, hM⟩ := bd hM
                 refine cp (r_s_l2Fails f p_1 zh hrh _) rfl (oc rfl on) (LeL.refl _) <| ex rfl rfl <| ex rfl rfl <| R.op rfl (a_store (cs' := [(I zh.1.kind), (I zh.1.n), (.str zh.1.name), (LTerm zh.1.kids .full)]) ti25 h1c rfl s1i rfl (nb rfl) rfl rfl fun σy s1j hFp => ?_)
                 have F2 := Fx.andThen hFp lo4
                 refine sn rfl <| R.done (hK16 _ _ (SW.ret (Qt (Qt ?_))))
                 obtain rfl := si hM
                 exact ret_of (rcc ti25 h1c s1j rfl (rc rfl rn)) (.tup [(.agg (cTerm zh.1)), (I zh.2)]) σ_0 (Le.tup (LeL.cons (Le.agg (LeL.cons (Le.refl _) (LeL.cons (Le.refl _) (LeL.cons (Le.refl _) (LeL.cons (Le.tok _ _ _) LeL.nil))))) (LeL.cons (Le.refl _) LeL.nil))) F2.back ⟨rfl, rfl⟩
               · have hM := cF hbh hM
                 refine SW.skip <| SW.seqR fun K3 hK3 => ld (v := (.agg [(I zg.1.kind), (I zg.1.n), (.str zg.1.name), (LTerm zg.1.kids .full)])) ti25 rfl s1h rfl <| mv rfl <| R.op rfl (a_store (cs' := [(I zg.1.kind), (I zg.1.n), (.str zg.1.name), (LTerm zg.1.kids .full)]) ti25 h1c rfl s1i rfl (nb rfl) rfl rfl fun σz s1k hFq => ?_)
                 have s1l := hFq.keep s1h (m1 (Ne.symm ne4))
                 have Fy := Fx.andThen hFq lo4
                 refine sn rfl <| R.done (hK3 _ _ (SW.ret (Qt ?_)))
                 obtain rfl := si hM
                 exact ret_of (rcc ti25 h1c s1k rfl (rc rfl rn)) (.tup [(.agg (cTerm zg.1)), (I zg.2)]) σ_0 (Le.tup (LeL.cons (Le.agg (LeL.cons (Le.refl _) (LeL.cons (Le.refl _) (LeL.cons (Le.refl _) (LeL.cons (Le.tok _ _ _) LeL.nil))))) (LeL.cons (Le.refl _) LeL.nil))) Fy.back ⟨rfl, rfl⟩
             · have hM := cF hbg hM
               refine SW.skip <| SW.seqR fun K17 hK17 => mv h19 <| mv h1a ?_
               obtain ⟨zi, hri, hM⟩ := bd hM
               refine cp (r_s_l1Name f p_0 p_1 zi hri _) rfl (oc rfl (oc rfl on)) (LeL.refl _) <| mv rfl <| ex rfl rfl <| ex rfl rfl <| sn rfl <| sn rfl <| R.done (hK17 _ _ (SW.seq (SW.seqR fun K18 hK18 => mv rfl (it rfl rfl rfl (R.done (hK18 _ _ (SW.cond rfl (fun hbi => ?_) (fun hbi => ?_))))))))
               · have hM := cT hbi hM
                 refine SW.seqR fun K19 hK19 => mv h1a ?_
                 obtain ⟨zj, hrj, hM⟩ := bd hM
                 refine cp (r_s_l2Fails f p_1 zj hrj _) rfl (oc rfl on) (LeL.refl _) <| ex rfl rfl <| ex rfl rfl <| R.op rfl (a_store (cs' := [(I zj.1.kind), (I zj.1.n), (.str zj.1.name), (LTerm zj.1.kids .full)]) ti25 h1c rfl s1e rfl (nb rfl) rfl rfl fun σ10 s1m hFr => ?_)
                 have Fz := Fv.andThen hFr lo4
                 refine sn rfl <| R.done (hK19 _ _ (SW.ret (Qt ?_)))
                 obtain rfl := si hM
                 exact ret_of (rcc ti25 h1c s1m rfl (rc rfl rn)) (.tup [(.agg (cTerm zj.1)), (I zj.2)]) σ_0 (Le.tup (LeL.cons (Le.agg (LeL.cons (Le.refl _) (LeL.cons (Le.refl _) (LeL.cons (Le.refl _) (LeL.cons (Le.tok _ _ _) LeL.nil))))) (LeL.cons (Le.refl _) LeL.nil))) Fz.back ⟨rfl, rfl⟩
               · have hM := cF hbi hM
                 refine SW.skip <| SW.seq <| SW.seqR fun K1a hK1a => mv h19 <| mv rfl ?_
                 obtain ⟨zk, hrk, hM⟩ := bd hM
                 refine cp (r_s_l1Sign f p_0 zi.2 40 zk hrk _) rfl (oc rfl (oc rfl (oc rfl on))) (LeL.refl _) <| no rfl <| R.done (hK1a _ _ (SW.cond rfl (fun hbj => ?_) (fun hbj => ?_)))
                 · have hM := cT hbj hM
                   refine SW.seqR fun K1b hK1b => mv rfl ?_
                   obtain ⟨zl, hrl, hM⟩ := bd hM
                   refine cl rfl (oc rfl (oc rfl on)) (AC.go (r_s_l1Struct f zi.1 ([] : List STerm) .full zl hrl _) (LeL.cons (Le.refl _) (LeL.cons (Le.empty' _ _ _ rfl) LeL.nil)) (StLe.refl _) fun v_ σ11 hp_ => ?_)
                   obtain ⟨tk5, rfl, t8, nn2, hFs⟩ := hp_
                   have loa := Lo.call Fv Lo.nil nn2
                   have s1n := hFs.keep s1e (by simp)
                   have F10 := Fv.andThen hFs Lo.nil
                   refine mv rfl <| R.op rfl (a_store (cs' := [(I zl.kind), (I zl.n), (.str zl.name), (LTerm zl.kids tk5)]) ti25 h1c rfl s1n rfl (nb rfl) rfl rfl fun σ12 s1o hFt => ?_)
                   have t9 := t8.keep hFt (not1 (tok_cells t8 s1n))
                   have F11 := F10.andThen hFt lo4
                   refine sn rfl <| R.done (hK1b _ _ (SW.ret (Qt ?_)))
                   obtain rfl := si hM
                   exact ret_of (rcc ti25 h1c s1o rfl (rc rfl rn)) (.tup [(.agg (cTerm zl)), (I zi.2)]) σ_0 (Le.tup (LeL.cons (Le.agg (LeL.cons (Le.refl _) (LeL.cons (Le.refl _) (LeL.cons (Le.refl _) (LeL.cons (Le.tok _ _ _) LeL.nil))))) (LeL.cons (Le.refl _) LeL.nil))) F11.back ⟨rfl, rfl⟩
                 · have hM := cF hbj hM
                   refine SW.skip <| SW.seqR fun K1c hK1c => mv h19 <| mv rfl <| it rfl rfl rfl <| mv h1b <| it rfl rfl rfl ?_
                   obtain ⟨zm, hrm, hM⟩ := bd hM
                   refine cp (ih_s_l2Terms p_0 (IntKind.wrap .i64 (zi.2 + 1)) (IntKind.wrap .i64 (p_2 - 1)) 41 41 zm hrm _) rfl (oc rfl (oc rfl (oc rfl (oc rfl (oc rfl on))))) (LeL.refl _) <| mv rfl <| ex rfl rfl <| ex rfl rfl <| sn rfl <| sn rfl <| R.done (hK1c _ _ (SW.seq (SW.seqR fun K1d hK1d => mv rfl (it rfl rfl rfl (R.done (hK1d _ _ (SW.cond rfl (fun hbk => ?_) (fun hbk => ?_))))))))
                   · have hM := cT hbk hM
                     refine SW.seqR fun K1e hK1e => R.opLe rfl (a_build (cs := [(I 0), (I 0), (.str (⟨#[]⟩ : ByteArray)), (.imm 0 [] .full)]) ti25 rfl rfl pn rfl ⟨(.agg [(I 0), (I 0), (.str (⟨#[]⟩ : ByteArray)), (LTerm ([] : List STerm) .full)]), Le.agg (LeL.cons (Le.refl _) (LeL.cons (Le.refl _) (LeL.cons (Le.refl _) (LeL.cons (Le.empty' _ _ _ rfl) LeL.nil)))), (mv rfl (R.op rfl (a_store (cs' := [(I 0), (I 0), (.str (⟨#[]⟩ : ByteArray)), (LTerm ([] : List STerm) .full)]) ti25 h1c rfl s1e rfl (nb rfl) rfl rfl fun σ13 s1p hFu => ?_)))⟩)
                     have F12 := Fv.andThen hFu lo4
                     refine sn rfl <| R.done (hK1e _ _ (SW.ret (Qt ?_)))
                     obtain rfl := si hM
                     exact ret_of (rcc ti25 h1c s1p rfl (rc rfl rn)) (.tup [(.agg (cTerm (STerm.mk 0 0 (⟨#[]⟩ : ByteArray) ([] : List STerm)))), (I zm.2)]) σ_0 (Le.tup (LeL.cons (Le.agg (LeL.cons (Le.refl _) (LeL.cons (Le.refl _) (LeL.cons (Le.refl _) (LeL.cons (Le.tok _ _ _) LeL.nil))))) (LeL.cons (Le.refl _) LeL.nil))) F12.back ⟨rfl, rfl⟩
                   · have hM := cF hbk hM
                     refine SW.skip <| SW.seqR fun K1f hK1f => mv rfl <| mv rfl <| R.op rfl (a_build (cs := [(I 3), (I 0), (.str zi.1), (LTerm zm.1 .no)]) ti25 rfl rfl (pc rfl (pc rfl (pc rfl pn))) rfl (mv rfl (it rfl rfl rfl (R.op rfl (a_store (cs' := [(I 3), (I 0), (.str zi.1), (LTerm zm.1 .no)]) ti25 h1c rfl s1e rfl (nb rfl) rfl rfl fun σ14 s1q hFv => ?_)))))
                     have F13 := Fv.andThen hFv lo4
                     refine sn rfl <| R.done (hK1f _ _ (SW.ret ?_))
                     obtain rfl := si hM
                     exact ret_of (rcc ti25 h1c s1q rfl (rc rfl rn)) (.tup [(.agg (cTerm (STerm.mk 3 0 zi.1 zm.1))), (I (IntKind.wrap .i64 (zm.2 + 1)))]) σ_0 (Le.refl _) F13.back ⟨rfl, rfl⟩
            clear eJ6
            refine SW.region <| mv h14 <| mv h15 ?_
            obtain ⟨zn, hrn, hM⟩ := bd hM
            refine cp (r_s_l1Digit f p_0 p_1 zn hrn _) rfl (oc rfl (oc rfl on)) (LeL.refl _) <| mv rfl ?_
            rcases bcase zn with hbl | hbl
            · have hM := cT hbl hM
              refine R.notf zn rfl hbl <| R.notf zn rfl hbl <| R.notf zn rfl hbl <| R.notf zn rfl hbl <| R.notf zn rfl hbl <| R.no rfl <| R.no rfl <| R.no rfl <| R.no rfl <| R.notf zn rfl hbl <| R.op rfl (a_pickT rfl hbl rfl (R.done ?_))
              exact hJ6 true _ _ Ft h14 h15 h16 h17 rfl s1c hM
            · have hM := cF hbl hM
              refine R.gof zn rfl hbl (a_move h14 (R.gof zn rfl hbl (a_move h15 ?_)))
              obtain ⟨x2, hx2, hM⟩ := bd hM
              refine R.gof zn rfl hbl (a_idxStr (n := p_1) (b := x2) ti9 rfl rfl rfl (od hg1) hx2 (R.gof zn rfl hbl (a_int rfl rfl rfl (R.gof zn rfl hbl (a_move rfl ?_)))))
              rcases bcase ((x2.toNat : Int) == 45) with hbm | hbm
              · have hM := cT hbm hM
                refine R.go ((x2.toNat : Int) == 45) rfl hbm (a_move h14 (R.go ((x2.toNat : Int) == 45) rfl hbm (a_move h15 (R.go ((x2.toNat : Int) == 45) rfl hbm (a_int rfl rfl rfl ?_)))))
                obtain ⟨zo, hro, hM⟩ := bd hM
                refine R.go ((x2.toNat : Int) == 45) rfl hbm (a_call (g := 169) rfl (oc rfl (oc rfl on)) (AC.goP (r_s_l1Digit f p_0 (IntKind.wrap .i64 (p_1 + 1)) zo hro _) (LeL.refl _) (R.gof zn rfl hbl (a_pickT rfl hbm rfl (R.op rfl (a_pickF rfl hbl rfl (R.done ?_)))))))
                exact hJ6 zo _ _ Ft h14 h15 h16 h17 rfl s1c hM
              · have hM := cF hbm hM
                refine R.not ((x2.toNat : Int) == 45) rfl hbm <| R.not ((x2.toNat : Int) == 45) rfl hbm <| R.not ((x2.toNat : Int) == 45) rfl hbm <| R.not ((x2.toNat : Int) == 45) rfl hbm <| R.gof zn rfl hbl (a_pickF rfl hbm rfl (R.op rfl (a_pickF rfl hbl rfl (R.done ?_))))
                exact hJ6 false _ _ Ft h14 h15 h16 h17 rfl s1c hM
         clear eJ5
         refine SW.region <| mv hz <| mv h10 ?_
         obtain ⟨x3, hx3, hM⟩ := bd hM
         refine R.op rfl (a_idxStr (n := p_1) (b := x3) ti9 rfl rfl rfl (od hg1) hx3 (it rfl rfl rfl (mv rfl ?_)))
         rcases bcase (decide (65 ≤ (x3.toNat : Int))) with hbn | hbn
         · have hM := cT hbn hM
           refine R.go (decide (65 ≤ (x3.toNat : Int))) rfl hbn (a_move hz (R.go (decide (65 ≤ (x3.toNat : Int))) rfl hbn (a_move h10 ?_)))
           obtain ⟨x4, hx4, hM⟩ := bd hM
           refine R.go (decide (65 ≤ (x3.toNat : Int))) rfl hbn (a_idxStr (n := p_1) (b := x4) ti9 rfl rfl rfl (od hg1) hx4 (R.go (decide (65 ≤ (x3.toNat : Int))) rfl hbn (a_int rfl rfl rfl (R.op rfl (a_pickT rfl hbn rfl (R.done ?_))))))
           exact hJ5 (decide ((x4.toNat : Int) ≤ 90)) _ _ Fq hz h10 h11 h12 rfl s1a hM
         · have hM := cF hbn hM
           refine R.not (decide (65 ≤ (x3.toNat : Int))) rfl hbn <| R.not (decide (65 ≤ (x3.toNat : Int))) rfl hbn <| R.not (decide (65 ≤ (x3.toNat : Int))) rfl hbn <| R.not (decide (65 ≤ (x3.toNat : Int))) rfl hbn <| R.op rfl (a_pickF rfl hbn rfl (R.done ?_))
           exact hJ5 false _ _ Fq hz h10 h11 h12 rfl s1a hM
      clear eJ4
      refine SW.region <| mv hu <| mv hv ?_
      obtain ⟨x5, hx5, hM⟩ := bd hM
      refine R.op rfl (a_idxStr (n := p_1) (b := x5) ti9 rfl rfl rfl (od hg1) hx5 (it rfl rfl rfl (mv rfl ?_)))
      rcases bcase ((x5.toNat : Int) == 91) with hbo | hbo
      · have hM := cT hbo hM
        refine R.go ((x5.toNat : Int) == 91) rfl hbo (a_move hu (R.go ((x5.toNat : Int) == 91) rfl hbo (a_move hv (R.go ((x5.toNat : Int) == 91) rfl hbo (a_int rfl rfl rfl ?_)))))
        obtain ⟨zp, hrp, hM⟩ := bd hM
        refine R.go ((x5.toNat : Int) == 91) rfl hbo (a_call (g := 155) rfl (oc rfl (oc rfl (oc rfl on))) (AC.goP (r_s_l1Sign f p_0 (IntKind.wrap .i64 (p_1 + 1)) 93 zp hrp _) (LeL.refl _) (R.go ((x5.toNat : Int) == 91) rfl hbo (a_not rfl (R.op rfl (a_pickT rfl hbo rfl (R.done ?_)))))))
        exact hJ4 (!zp) _ _ Fk hu hv hw hx rfl s10 hM
      · have hM := cF hbo hM
        refine R.not ((x5.toNat : Int) == 91) rfl hbo <| R.not ((x5.toNat : Int) == 91) rfl hbo <| R.not ((x5.toNat : Int) == 91) rfl hbo <| R.not ((x5.toNat : Int) == 91) rfl hbo <| R.not ((x5.toNat : Int) == 91) rfl hbo <| R.op rfl (a_pickF rfl hbo rfl (R.done ?_))
        exact hJ4 false _ _ Fk hu hv hw hx rfl s10 hM
 clear eJ3
 refine SW.region <| mv rfl <| it rfl rfl rfl <| mv rfl ?_
 rcases bcase (decide (p_2 < 1)) with hbp | hbp
 · have hM := cT hbp hM
   refine R.notf (decide (p_2 < 1)) rfl hbp <| R.notf (decide (p_2 < 1)) rfl hbp <| R.notf (decide (p_2 < 1)) rfl hbp <| R.notf (decide (p_2 < 1)) rfl hbp <| R.op rfl (a_pickT rfl hbp rfl (R.done ?_))
   exact hJ3 true _ _ F5 rfl rfl rfl rfl rfl s3 hM
 · have hM := cF hbp hM
   refine R.gof (decide (p_2 < 1)) rfl hbp (a_move rfl (R.gof (decide (p_2 < 1)) rfl hbp (a_move rfl (R.gof (decide (p_2 < 1)) rfl hbp (a_lenStr ti9 rfl rfl (R.gof (decide (p_2 < 1)) rfl hbp (a_int rfl rfl rfl (R.op rfl (a_pickF rfl hbp rfl (R.done ?_))))))))))
   exact hJ3 (decide ((p_0.size : Int) ≤ p_1)) _ _ F5 rfl rfl rfl rfl rfl s3 hM

theorem b_s_l2Items (f : Nat) {c_s_l2Read : ByteArray → Int → Int → Int → Option (STerm × Int)} (ih_s_l2Read : Q_s_l2Read c_s_l2Read) {c_s_l2Prime : ByteArray → Int → Int → Option (STerm × Int)} (ih_s_l2Prime : Q_s_l2Prime c_s_l2Prime) {c_s_l2Items : ByteArray → Int → Int → Option (STerm × Int)} (ih_s_l2Items : Q_s_l2Items c_s_l2Items) {c_s_l2Terms : ByteArray → Int → Int → Int → Int → Option ((List STerm) × Int)} (ih_s_l2Terms : Q_s_l2Terms c_s_l2Terms) : Q_s_l2Items (B_s_l2Items f c_s_l2Read c_s_l2Prime c_s_l2Items c_s_l2Terms) := by
 intro p_0 p_1 p_2 r hM σ_0
 have F_0 := Fr.refl σ_0 []
 unfold B_s_l2Items at hM
 refine AC.of_body Tryz.func168 rfl rfl (by rfl) (by simp [Tryz.f168]) <| SW.seqR fun K0 hK0 => alTerm fun a1 σ5 n2 s3 hF3 => ?_
 have lo4 := F_0.lo1 n2
 have F5 := F_0.andThen hF3 Lo.nil
 refine sn rfl <| R.done (hK0 _ _ (SW.seqR fun Ka hKa => mv rfl (mv rfl (mv rfl ?_))))
 obtain ⟨zq, hrq, hM⟩ := bd hM
 refine cp (ih_s_l2Terms p_0 p_1 p_2 93 124 zq hrq _) rfl (oc rfl (oc rfl (oc rfl (oc rfl (oc rfl on))))) (LeL.refl _) <| mv rfl <| ex rfl rfl <| ex rfl rfl <| sn rfl <| sn rfl <| R.done (hKa _ _ (SW.seq (SW.seqR fun K1g hK1g => mv rfl (it rfl rfl rfl (R.done (hK1g _ _ (SW.cond rfl (fun hbq => ?_) (fun hbq => ?_))))))))
 · have hM := cT hbq hM
   refine SW.seqR fun K1h hK1h => R.opLe rfl (a_build (cs := [(I 0), (I 0), (.str (⟨#[]⟩ : ByteArray)), (.imm 0 [] .full)]) ti25 rfl rfl pn rfl ⟨(.agg [(I 0), (I 0), (.str (⟨#[]⟩ : ByteArray)), (LTerm ([] : List STerm) .full)]), Le.agg (LeL.cons (Le.refl _) (LeL.cons (Le.refl _) (LeL.cons (Le.refl _) (LeL.cons (Le.empty' _ _ _ rfl) LeL.nil)))), (mv rfl (R.op rfl (a_store (cs' := [(I 0), (I 0), (.str (⟨#[]⟩ : ByteArray)), (LTerm ([] : List STerm) .full)]) ti25 rfl rfl s3 rfl (nb rfl) rfl rfl fun σ15 s1r hFw => ?_)))⟩)
   have F14 := F5.andThen hFw lo4
   refine sn rfl <| R.done (hK1h _ _ (SW.ret (Qt ?_)))
   obtain rfl := si hM
   exact ret_of (rcc ti25 rfl s1r rfl (rc rfl rn)) (.tup [(.agg (cTerm (STerm.mk 0 0 (⟨#[]⟩ : ByteArray) ([] : List STerm)))), (I zq.2)]) σ_0 (Le.tup (LeL.cons (Le.agg (LeL.cons (Le.refl _) (LeL.cons (Le.refl _) (LeL.cons (Le.refl _) (LeL.cons (Le.tok _ _ _) LeL.nil))))) (LeL.cons (Le.refl _) LeL.nil))) F14.back ⟨rfl, rfl⟩
 · have hM := cF hbq hM
   refine SW.skip <| SW.seq <| SW.seqR fun K1i hK1i => mv rfl <| mv rfl ?_
   obtain ⟨zr, hrr, hM⟩ := bd hM
   refine cp (r_s_l1Sign f p_0 zq.2 93 zr hrr _) rfl (oc rfl (oc rfl (oc rfl on))) (LeL.refl _) <| R.done (hK1i _ _ (SW.cond rfl (fun hbr => ?_) (fun hbr => ?_)))
   · have hM := cT hbr hM
     refine SW.seqR fun K1j hK1j => mv rfl ?_
     obtain ⟨zs, hrs, hM⟩ := bd hM
     refine cl rfl (oc rfl (oc rfl on)) (AC.go (r_s_l1Struct f (⟨#[91, 93]⟩ : ByteArray) ([] : List STerm) .full zs hrs _) (LeL.cons (Le.refl _) (LeL.cons (Le.empty' _ _ _ rfl) LeL.nil)) (StLe.refl _) fun v_ σ16 hp_ => ?_)
     obtain ⟨tk6, rfl, ta, nn3, hFx⟩ := hp_
     have lob := Lo.call F5 Lo.nil nn3
     have s1s := hFx.keep s3 (by simp)
     have F15 := F5.andThen hFx Lo.nil
     obtain ⟨zt, hrt, hM⟩ := bd hM
     refine cp (r_s_l1Chain f zq.1 .no zs zt hrt _) rfl (oc rfl (oc rfl on)) (LeL.cons (Le.refl _) (LeL.cons (Le.agg (LeL.cons (Le.refl _) (LeL.cons (Le.refl _) (LeL.cons (Le.refl _) (LeL.cons (Le.tok _ _ _) LeL.nil))))) LeL.nil)) <| mv rfl <| it rfl rfl rfl <| R.op rfl (a_store (cs' := (cTerm zt)) ti25 rfl rfl s1s rfl (nb rfl) rfl rfl fun σ17 s1t hFy => ?_)
     have tb := ta.keep hFy (not1 (tok_cells ta s1s))
     have F16 := F15.andThen hFy lo4
     refine sn rfl <| R.done (hK1j _ _ (SW.ret (Qt ?_)))
     obtain rfl := si hM
     exact ret_of (rcc ti25 rfl s1t rfl (rc rfl rn)) (.tup [(.agg (cTerm zt)), (I (IntKind.wrap .i64 (zq.2 + 1)))]) σ_0 (Le.refl _) F16.back ⟨rfl, rfl⟩
   · have hM := cF hbr hM
     refine SW.skip <| SW.seqR fun K1k hK1k => mv rfl <| mv rfl <| it rfl rfl rfl <| mv rfl ?_
     obtain ⟨zu, hru, hM⟩ := bd hM
     refine cp (ih_s_l2Read p_0 (IntKind.wrap .i64 (zq.2 + 1)) p_2 3 zu hru _) rfl (oc rfl (oc rfl (oc rfl (oc rfl on)))) (LeL.refl _) <| mv rfl <| ex rfl rfl <| ex rfl rfl <| alTerm fun a6 σ18 n8 s14 hFh => ?_
     have ne5 := ne_new n8 s3
     have loc := F5.lo1 n8
     have s1u := hFh.keep s3 (by simp)
     have F17 := F5.andThen hFh Lo.nil
     refine R.op rfl (a_store (cs' := (cTerm zu.1)) ti25 rfl rfl s14 rfl (nb rfl) rfl rfl fun σ19 s1v hFz => ?_)
     have s1w := hFz.keep s1u (m1 ne5)
     have F18 := F17.andThen hFz loc
     refine sn rfl <| R.done (hK1k _ _ (SW.seq (SW.seqR fun K1l hK1l => mv rfl (it rfl rfl rfl (R.done (hK1l _ _ (SW.cond rfl (fun hbs => ?_) (fun hbs => ?_))))))))
     · have hM := cT hbs hM
       refine SW.seqR fun K1m hK1m => R.opLe rfl (a_build (cs := [(I 0), (I 0), (.str (⟨#[]⟩ : ByteArray)), (.imm 0 [] .full)]) ti25 rfl rfl pn rfl ⟨(.agg [(I 0), (I 0), (.str (⟨#[]⟩ : ByteArray)), (LTerm ([] : List STerm) .full)]), Le.agg (LeL.cons (Le.refl _) (LeL.cons (Le.refl _) (LeL.cons (Le.refl _) (LeL.cons (Le.empty' _ _ _ rfl) LeL.nil)))), (mv rfl (R.op rfl (a_store (cs' := [(I 0), (I 0), (.str (⟨#[]⟩ : ByteArray)), (LTerm ([] : List STerm) .full)]) ti25 rfl rfl s1w rfl (nb rfl) rfl rfl fun σ1a s1x hF10 => ?_)))⟩)
       have F19 := F18.andThen hF10 lo4
       refine sn rfl <| R.done (hK1m _ _ (SW.ret (Qt ?_)))
       obtain rfl := si hM
       exact ret_of (rcc ti25 rfl s1x rfl (rc rfl rn)) (.tup [(.agg (cTerm (STerm.mk 0 0 (⟨#[]⟩ : ByteArray) ([] : List STerm)))), (I zu.2)]) σ_0 (Le.tup (LeL.cons (Le.agg (LeL.cons (Le.refl _) (LeL.cons (Le.refl _) (LeL.cons (Le.refl _) (LeL.cons (Le.tok _ _ _) LeL.nil))))) (LeL.cons (Le.refl _) LeL.nil))) F19.back ⟨rfl, rfl⟩
     · have hM := cF hbs hM
       refine SW.skip <| SW.seq <| SW.seqR fun K1n hK1n => mv rfl <| mv rfl ?_
       obtain ⟨zv, hrv, hM⟩ := bd hM
       refine cp (r_s_l1Sign f p_0 zu.2 93 zv hrv _) rfl (oc rfl (oc rfl (oc rfl on))) (LeL.refl _) <| no rfl <| R.done (hK1n _ _ (SW.cond rfl (fun hbt => ?_) (fun hbt => ?_)))
       · have hM := cT hbt hM
         refine SW.seqR fun K1o hK1o => mv rfl ?_
         obtain ⟨zw, hrw, hM⟩ := bd hM
         refine cp (r_s_l2Fails f zu.2 zw hrw _) rfl (oc rfl on) (LeL.refl _) <| ex rfl rfl <| ex rfl rfl <| R.op rfl (a_store (cs' := [(I zw.1.kind), (I zw.1.n), (.str zw.1.name), (LTerm zw.1.kids .full)]) ti25 rfl rfl s1w rfl (nb rfl) rfl rfl fun σ1b s1y hF11 => ?_)
         have Fp := F18.andThen hF11 lo4
         refine sn rfl <| R.done (hK1o _ _ (SW.ret (Qt ?_)))
         obtain rfl := si hM
         exact ret_of (rcc ti25 rfl s1y rfl (rc rfl rn)) (.tup [(.agg (cTerm zw.1)), (I zw.2)]) σ_0 (Le.tup (LeL.cons (Le.agg (LeL.cons (Le.refl _) (LeL.cons (Le.refl _) (LeL.cons (Le.refl _) (LeL.cons (Le.tok _ _ _) LeL.nil))))) (LeL.cons (Le.refl _) LeL.nil))) Fp.back ⟨rfl, rfl⟩
       · have hM := cF hbt hM
         refine SW.skip <| SW.seqR fun K1p hK1p => mv rfl <| ld (v := (.agg (cTerm zu.1))) ti25 rfl s1v rfl ?_
         obtain ⟨zx, hrx, hM⟩ := bd hM
         refine cp (r_s_l1Chain f zq.1 .no zu.1 zx hrx _) rfl (oc rfl (oc rfl on)) (LeL.refl _) <| mv rfl <| it rfl rfl rfl <| R.op rfl (a_store (cs' := (cTerm zx)) ti25 rfl rfl s1w rfl (nb rfl) rfl rfl fun σ1c s1z hF12 => ?_)
         have s20 := hF12.keep s1v (m1 (Ne.symm ne5))
         have F1a := F18.andThen hF12 lo4
         refine sn rfl <| R.done (hK1p _ _ (SW.ret ?_))
         obtain rfl := si hM
         exact ret_of (rcc ti25 rfl s1z rfl (rc rfl rn)) (.tup [(.agg (cTerm zx)), (I (IntKind.wrap .i64 (zu.2 + 1)))]) σ_0 (Le.refl _) F1a.back ⟨rfl, rfl⟩

theorem rr_s_l2Terms (f : Nat) : Q_s_l2Terms (M_s_l2Terms f) ∧ Q_s_l2Read (M_s_l2Read f) ∧ Q_s_l2Prime (M_s_l2Prime f) ∧ Q_s_l2Items (M_s_l2Items f) := by
 induction f with
 | zero => exact ⟨(by intro p_0 p_1 p_2 p_3 p_4 r hM; rw [M_s_l2Terms] at hM; cases hM), (by intro p_0 p_1 p_2 p_3 r hM; rw [M_s_l2Read] at hM; cases hM), (by intro p_0 p_1 p_2 r hM; rw [M_s_l2Prime] at hM; cases hM), (by intro p_0 p_1 p_2 r hM; rw [M_s_l2Items] at hM; cases hM)⟩
 | succ f ih => exact ⟨(by intro p_0 p_1 p_2 p_3 p_4 r hM; rw [M_s_l2Terms] at hM; exact b_s_l2Terms f ih.2.1 ih.2.2.1 ih.2.2.2 ih.1 p_0 p_1 p_2 p_3 p_4 r hM), (by intro p_0 p_1 p_2 p_3 r hM; rw [M_s_l2Read] at hM; exact b_s_l2Read f ih.2.1 ih.2.2.1 ih.2.2.2 ih.1 p_0 p_1 p_2 p_3 r hM), (by intro p_0 p_1 p_2 r hM; rw [M_s_l2Prime] at hM; exact b_s_l2Prime f ih.2.1 ih.2.2.1 ih.2.2.2 ih.1 p_0 p_1 p_2 r hM), (by intro p_0 p_1 p_2 r hM; rw [M_s_l2Items] at hM; exact b_s_l2Items f ih.2.1 ih.2.2.1 ih.2.2.2 ih.1 p_0 p_1 p_2 r hM)⟩

theorem r_s_l2Terms (f : Nat) : Q_s_l2Terms (M_s_l2Terms f) := (rr_s_l2Terms f).1

theorem r_s_l2Read (f : Nat) : Q_s_l2Read (M_s_l2Read f) := (rr_s_l2Terms f).2.1

theorem r_s_l2Prime (f : Nat) : Q_s_l2Prime (M_s_l2Prime f) := (rr_s_l2Terms f).2.2.1

theorem r_s_l2Items (f : Nat) : Q_s_l2Items (M_s_l2Items f) := (rr_s_l2Terms f).2.2.2

def L_s_l4Goals_1 (f : Nat) (p_0 : ByteArray) (J0 : Unit → Option ((List STerm) × Int)) : Nat → Int → List STerm → Option ((List STerm) × Int)
 | 0, _, _ => none
 | n + 1, v0, v1 =>
 bif decide ((v1.length : Int) ≤ 6) then (
 Option.bind (M_s_l2Read f p_0 v0 30 3) fun z0 =>
 bif decide (z0.2 < 0) then (
 some (([] : List STerm), (-1))
 ) else (
 bif decide (v1.length + ([z0.1]).length ≤ 4294967296) then
 Option.bind (M_s_l1Sign f p_0 z0.2 44) fun z1 =>
 bif (!z1) then (
 some ((v1 ++ ([z0.1])), z0.2)
 ) else (
 L_s_l4Goals_1 f p_0 J0 n (IntKind.wrap .i64 (z0.2 + 1)) (v1 ++ ([z0.1]))
 )
 else none
 )
 ) else (
 J0 ()
 )

def M_s_l4Goals (f : Nat) (p_0 : ByteArray) (p_1 : Int) : Option ((List STerm) × Int) :=
 jn (fun (_ : Unit) => (
 some (([] : List STerm), (-1))
 )) fun J0 => (
 L_s_l4Goals_1 f p_0 J0 f p_1 ([] : List STerm)
 )

theorem r_s_l4Goals (f : Nat) (p_0 : ByteArray) (p_1 : Int) (r : (List STerm) × Int) (hM : M_s_l4Goals f p_0 p_1 = some r) (σ_0 : St) : AC Tryz.prog 156 [(.str p_0), (I p_1)] σ_0 (fun v s => v = (.tup [(LTerm r.1 .no), (I r.2)]) ∧ s = σ_0) := by
 have F_0 := Fr.refl σ_0 []
 unfold M_s_l4Goals at hM
 refine AC.of_body Tryz.func156 rfl rfl (by rfl) (by simp [Tryz.f156]) <| SW.seqR fun K0 hK0 => R.opLe rfl (a_assign (v := (.imm 0 [] .full)) rfl ⟨(LTerm ([] : List STerm) .full), Le.empty' _ _ _ rfl, (sn rfl (R.done (hK0 _ _ (SW.seqR fun K1 hK1 => R.op rfl (a_buildSlice (v := (LTerm ([] : List STerm) .full)) (bsv_of ti23 rfl ti25 pn rfl ⟨rfl, by decide, by decide, rfl⟩) (sn rfl (R.done (hK1 _ _ (SW.seqK fun K2 hK2 => ?_)))))))))⟩)
 obtain ⟨J0, eJ0, hM⟩ := jn_elim hM
 have hJ0 : ∀  (env0 : Env) (σ0 : St), Fr σ_0 σ0 [] → J0 () = some r → K2 env0 σ0 := by
  intro env0 σ0 F0 hM
  subst eJ0
  refine hK2 _ _ <| SW.seqR fun K3 hK3 => R.opLe rfl (a_assign (v := (.imm 0 [] .full)) rfl ⟨(LTerm ([] : List STerm) .full), Le.empty' _ _ _ rfl, (sn rfl (R.done (hK3 _ _ (SW.ret ?_))))⟩)
  obtain rfl := si hM
  exact ret_of (rc rfl (rc rfl rn)) (.tup [(LTerm ([] : List STerm) .no), (I (-1))]) σ_0 (Le.tup (LeL.cons (Le.tok _ _ _) (LeL.cons (Le.refl _) LeL.nil))) F0.back ⟨rfl, rfl⟩
 clear eJ0
 refine SW.block <| SW.loop <| LW.ind (I := fun n0 env1 σ1 => ∃ (v0 : Int) (v1 : List STerm) (tk0 : Tk), Fr σ_0 σ1 [] ∧ env1.get 0 = some (.str p_0) ∧ env1.get 1 = some (I v0) ∧ env1.get 6 = some (LTerm v1 tk0) ∧ TokOk σ1 tk0 v1.length 4 ∧ Lo σ_0 [] (tkNames tk0) ∧ L_s_l4Goals_1 f p_0 J0 n0 v0 v1 = some r) ?_ f _ _ ⟨p_1, ([] : List STerm), .full, F_0, rfl, rfl, rfl, trivial, Lo.full, hM⟩
 rintro n0 env1 σ1 ⟨v0, v1, tk0, F1, h0, h1, h2, t0, lo0, hM⟩
 cases n0 with
 | zero => (rw [L_s_l4Goals_1] at hM; cases hM)
 | succ n0 =>
  rw [L_s_l4Goals_1] at hM
  refine SW.seq <| SW.seqR fun K4 hK4 => mv h2 <| R.op rfl (a_lenImm ti23 rfl rfl (n := (v1.length : Int)) (by simp) (it rfl rfl rfl (R.done (hK4 _ _ (SW.cond rfl (fun hb0 => ?_) (fun hb0 => ?_))))))
  · have hM := cT hb0 hM
    refine SW.skip <| SW.block <| SW.seqR fun K5 hK5 => mv h0 <| mv h1 ?_
    obtain ⟨z0, hr0, hM⟩ := bd hM
    refine cp (r_s_l2Read f p_0 v0 30 3 z0 hr0 _) rfl (oc rfl (oc rfl (oc rfl (oc rfl on)))) (LeL.refl _) <| mv rfl <| ex rfl rfl <| ex rfl rfl <| alTerm fun a0 σ2 n1 s0 hF0 => ?_
    have lo2 := F1.lo1 n1
    have t1 := t0.keep hF0 (by simp)
    have F2 := F1.andThen hF0 Lo.nil
    refine R.op rfl (a_store (cs' := (cTerm z0.1)) ti25 rfl rfl s0 rfl (nb rfl) rfl rfl fun σ3 s1 hF1 => ?_)
    have t2 := t1.keep hF1 (not1 (tok_cells t1 s0))
    have F3 := F2.andThen hF1 lo2
    refine sn rfl <| R.done (hK5 _ _ (SW.seq (SW.seqR fun K6 hK6 => mv rfl (it rfl rfl rfl (R.done (hK6 _ _ (SW.cond rfl (fun hb1 => ?_) (fun hb1 => ?_))))))))
    · have hM := cT hb1 hM
      refine SW.seqR fun K7 hK7 => R.opLe rfl (a_assign (v := (.imm 0 [] .full)) rfl ⟨(LTerm ([] : List STerm) .full), Le.empty' _ _ _ rfl, (sn rfl (R.done (hK7 _ _ (SW.ret (Qt (Qb (Qt (Qb (Qt ?_)))))))))⟩)
      obtain rfl := si hM
      exact ret_of (rc rfl (rc rfl rn)) (.tup [(LTerm ([] : List STerm) .no), (I (-1))]) σ_0 (Le.tup (LeL.cons (Le.tok _ _ _) (LeL.cons (Le.refl _) LeL.nil))) F3.back ⟨rfl, rfl⟩
    · have hM := cF hb1 hM
      refine SW.skip <| SW.seqR fun K8 hK8 => mv h2 <| ld (v := (.agg (cTerm z0.1))) ti25 rfl s1 rfl <| R.op rfl (a_buildSlice (v := (LTerm ([z0.1]) .full)) (bsv_of' (es := [(.agg (cTerm z0.1))]) ti23 rfl ti25 (pc rfl pn) rfl ⟨rfl, by decide, by decide, rfl⟩ (by simp only [List.map_cons, List.map_nil, eTerm_eq])) ?_)
      obtain ⟨hg0, hM⟩ := gd hM
      refine R.op rfl (a_append (es := List.map eTerm v1) (ds := List.map eTerm ([z0.1])) (rs := List.map eTerm (v1 ++ ([z0.1]))) ti23 rfl ti23 rfl ti25 rfl rfl (.inl rfl) rfl rfl (by decide) (by decide) (by simpa using od hg0) (.inl rfl) (t2.len (by first | rfl | simp)) (by simp) fun tk1 σ4 t3 hF2 nn0 => ?_)
      have lo3 := F3.loTk lo0 nn0
      have s2 := hF2.keep s1 (tok_cells t2 s1)
      have F4 := F3.andThen hF2 lo0
      refine sn rfl <| R.done (hK8 _ _ (SW.seq (SW.seqR fun K9 hK9 => mv h0 (mv rfl ?_))))
      obtain ⟨z1, hr1, hM⟩ := bd hM
      refine cp (r_s_l1Sign f p_0 z0.2 44 z1 hr1 _) rfl (oc rfl (oc rfl (oc rfl on))) (LeL.refl _) <| no rfl <| R.done (hK9 _ _ (SW.cond rfl (fun hb2 => ?_) (fun hb2 => ?_)))
      · have hM := cT hb2 hM
        refine SW.seqR fun Ka hKa => mv rfl <| mv rfl <| sn rfl <| sn rfl <| R.done (hKa _ _ (SW.ret (Qt (Qb (Qt (Qb (Qt ?_)))))))
        obtain rfl := si hM
        exact ret_of (rc rfl (rc rfl rn)) (.tup [(LTerm (v1 ++ ([z0.1])) .no), (I z0.2)]) σ_0 (Le.tup (LeL.cons (Le.tok _ _ _) (LeL.cons (Le.refl _) LeL.nil))) F4.back ⟨rfl, rfl⟩
      · have hM := cF hb2 hM
        refine SW.skip <| SW.region <| mv rfl <| it rfl rfl rfl <| sn rfl <| R.done ?_
        exact ⟨n0, Nat.lt_succ_self _, (IntKind.wrap .i64 (z0.2 + 1)), (v1 ++ ([z0.1])), tk1, F4, h0, rfl, rfl, (t3.len (by first | rfl | simp)), lo3, hM⟩
  · have hM := cF hb0 hM
    refine SW.exit <| Qte <| Qte <| Qbx ?_
    exact hJ0  _ _ F1 hM

def L_s_l1Word_1 (p_0 : ByteArray) (J0 : Unit → Option Bool) : Nat → Int → Option Bool
 | 0, _ => none
 | n + 1, v0 =>
 bif decide (v0 < (p_0.size : Int)) then (
 jn (fun (v1 : Bool) => (
 bif v1 then (
 some (false)
 ) else (
 L_s_l1Word_1 p_0 J0 n (IntKind.wrap .i64 (v0 + 1))
 )
 )) fun J1 => (
 bif decide (0 ≤ v0) then
 Option.bind (p_0.data[(v0 : Int).toNat]?) fun x0 =>
 bif decide ((x0.toNat : Int) < 97) then (
 J1 true
 ) else (
 Option.bind (p_0.data[(v0 : Int).toNat]?) fun x1 =>
 J1 (decide (122 < (x1.toNat : Int)))
 )
 else none
 )
 ) else (
 J0 ()
 )

def M_s_l1Word (f : Nat) (p_0 : ByteArray) : Option Bool :=
 jn (fun (_ : Unit) => (
 jn (fun (v2 : Bool) => (
 some (v2)
 )) fun J2 => (
 bif decide (1 ≤ (p_0.size : Int)) then (
 J2 (decide ((p_0.size : Int) ≤ 6))
 ) else (
 J2 false
 )
 )
 )) fun J0 => (
 L_s_l1Word_1 p_0 J0 f 0
 )

theorem r_s_l1Word (f : Nat) (p_0 : ByteArray) (r : Bool) (hM : M_s_l1Word f p_0 = some r) (σ_0 : St) : AC Tryz.prog 114 [(.str p_0)] σ_0 (fun v s => v = (.bool r) ∧ s = σ_0) := by
 have F_0 := Fr.refl σ_0 []
 unfold M_s_l1Word at hM
 refine AC.of_body Tryz.func114 rfl rfl (by rfl) (by simp [Tryz.f114]) <| SW.seqR fun K0 hK0 => sn rfl <| R.done (hK0 _ _ (SW.seqK fun K1 hK1 => ?_))
 obtain ⟨J0, eJ0, hM⟩ := jn_elim hM
 have hJ0 : ∀  (env0 : Env) (σ0 : St), Fr σ_0 σ0 [] → env0.get 0 = some (.str p_0) → J0 () = some r → K1 env0 σ0 := by
  intro env0 σ0 F0 h0 hM
  subst eJ0
  refine hK1 _ _ <| SW.seqK fun K2 hK2 => ?_
  obtain ⟨J2, eJ1, hM⟩ := jn_elim hM
  have hJ1 : ∀ (v2 : Bool) (env1 : Env) (σ1 : St), Fr σ_0 σ1 [] → env1.get 2 = some (.bool v2) → J2 v2 = some r → K2 env1 σ1 := by
   intro v2 env1 σ1 F1 h1 hM
   subst eJ1
   refine hK2 _ _ <| SW.ret ?_
   obtain rfl := si hM
   exact ret_of (rc h1 rn) (.bool v2) σ_0 (Le.refl _) F1.back ⟨rfl, rfl⟩
  clear eJ1
  refine SW.region <| mv h0 <| R.op rfl (a_lenStr ti9 rfl rfl (it rfl rfl rfl (mv rfl ?_)))
  rcases bcase (decide (1 ≤ (p_0.size : Int))) with hb0 | hb0
  · have hM := cT hb0 hM
    refine R.go (decide (1 ≤ (p_0.size : Int))) rfl hb0 (a_move h0 (R.go (decide (1 ≤ (p_0.size : Int))) rfl hb0 (a_lenStr ti9 rfl rfl (R.go (decide (1 ≤ (p_0.size : Int))) rfl hb0 (a_int rfl rfl rfl (R.op rfl (a_pickT rfl hb0 rfl (sn rfl (R.done ?_)))))))))
    exact hJ1 (decide ((p_0.size : Int) ≤ 6)) _ _ F0 rfl hM
  · have hM := cF hb0 hM
    refine R.not (decide (1 ≤ (p_0.size : Int))) rfl hb0 <| R.not (decide (1 ≤ (p_0.size : Int))) rfl hb0 <| R.not (decide (1 ≤ (p_0.size : Int))) rfl hb0 <| R.op rfl (a_pickF rfl hb0 rfl (sn rfl (R.done ?_)))
    exact hJ1 false _ _ F0 rfl hM
 clear eJ0
 refine SW.seqR fun K3 hK3 => sn rfl <| R.done (hK3 _ _ (SW.block (SW.loop (LW.ind (I := fun n0 env2 σ2 => ∃ (v0 : Int), Fr σ_0 σ2 [] ∧ env2.get 0 = some (.str p_0) ∧ env2.get 3 = some (I v0) ∧ L_s_l1Word_1 p_0 J0 n0 v0 = some r) ?_ f _ _ ⟨0, F_0, rfl, rfl, hM⟩))))
 rintro n0 env2 σ2 ⟨v0, F2, h2, h3, hM⟩
 cases n0 with
 | zero => (rw [L_s_l1Word_1] at hM; cases hM)
 | succ n0 =>
  rw [L_s_l1Word_1] at hM
  refine SW.seq <| SW.seqR fun K4 hK4 => mv h3 <| mv h2 <| R.op rfl (a_lenStr ti9 rfl rfl (it rfl rfl rfl (R.done (hK4 _ _ (SW.cond rfl (fun hb1 => ?_) (fun hb1 => ?_))))))
  · have hM := cT hb1 hM
    refine SW.skip <| SW.seq <| SW.block <| SW.seqK fun K5 hK5 => ?_
    obtain ⟨J1, eJ2, hM⟩ := jn_elim hM
    have hJ2 : ∀ (v1 : Bool) (env3 : Env) (σ3 : St), Fr σ_0 σ3 [] → env3.get 0 = some (.str p_0) → env3.get 3 = some (I v0) → env3.get 19 = some (.bool v1) → J1 v1 = some r → K5 env3 σ3 := by
     intro v1 env3 σ3 F3 h4 h5 h6 hM
     subst eJ2
     refine hK5 _ _ <| SW.cond h6 (fun hb2 => ?_) (fun hb2 => ?_)
     · have hM := cT hb2 hM
       refine SW.seqR fun K6 hK6 => sn rfl <| R.done (hK6 _ _ (SW.ret (Qb (Qt (Qt (Qb (Qt ?_)))))))
       obtain rfl := si hM
       exact ret_of (rc rfl rn) (.bool false) σ_0 (Le.refl _) F3.back ⟨rfl, rfl⟩
     · have hM := cF hb2 hM
       refine SW.skip <| SW.region <| mv h5 <| it rfl rfl rfl <| sn rfl <| R.done ?_
       exact ⟨n0, Nat.lt_succ_self _, (IntKind.wrap .i64 (v0 + 1)), F3, h4, rfl, hM⟩
    clear eJ2
    refine SW.region <| mv h2 <| mv h3 ?_
    obtain ⟨hg0, hM⟩ := gd hM
    obtain ⟨x0, hx0, hM⟩ := bd hM
    refine R.op rfl (a_idxStr (n := v0) (b := x0) ti9 rfl rfl rfl (od hg0) hx0 (it rfl rfl rfl (mv rfl ?_)))
    rcases bcase (decide ((x0.toNat : Int) < 97)) with hb3 | hb3
    · have hM := cT hb3 hM
      refine R.notf (decide ((x0.toNat : Int) < 97)) rfl hb3 <| R.notf (decide ((x0.toNat : Int) < 97)) rfl hb3 <| R.notf (decide ((x0.toNat : Int) < 97)) rfl hb3 <| R.notf (decide ((x0.toNat : Int) < 97)) rfl hb3 <| R.op rfl (a_pickT rfl hb3 rfl (R.done ?_))
      exact hJ2 true _ _ F2 h2 h3 rfl hM
    · have hM := cF hb3 hM
      refine R.gof (decide ((x0.toNat : Int) < 97)) rfl hb3 (a_move h2 (R.gof (decide ((x0.toNat : Int) < 97)) rfl hb3 (a_move h3 ?_)))
      obtain ⟨x1, hx1, hM⟩ := bd hM
      refine R.gof (decide ((x0.toNat : Int) < 97)) rfl hb3 (a_idxStr (n := v0) (b := x1) ti9 rfl rfl rfl (od hg0) hx1 (R.gof (decide ((x0.toNat : Int) < 97)) rfl hb3 (a_int rfl rfl rfl (R.op rfl (a_pickF rfl hb3 rfl (R.done ?_))))))
      exact hJ2 (decide (122 < (x1.toNat : Int))) _ _ F2 h2 h3 rfl hM
  · have hM := cF hb1 hM
    refine SW.exit <| Qte <| Qte <| Qbx ?_
    exact hJ0  _ _ F2 h2 hM

def L_s_l1Has_1 (p_0 : (List ByteArray)) (p_1 : ByteArray) (J0 : Unit → Option Bool) : Nat → Int → Option Bool
 | 0, _ => none
 | n + 1, v0 =>
 bif decide (v0 < (p_0.length : Int)) then (
 bif decide (0 ≤ v0) then
 Option.bind (p_0[(v0 : Int).toNat]?) fun x0 =>
 bif decide (x0 = p_1) then (
 some (true)
 ) else (
 L_s_l1Has_1 p_0 p_1 J0 n (IntKind.wrap .i64 (v0 + 1))
 )
 else none
 ) else (
 J0 ()
 )

def M_s_l1Has (f : Nat) (p_0 : (List ByteArray)) (p_1 : ByteArray) : Option Bool :=
 jn (fun (_ : Unit) => (
 some (false)
 )) fun J0 => (
 L_s_l1Has_1 p_0 p_1 J0 f 0
 )

theorem r_s_l1Has (f : Nat) (p_0 : (List ByteArray)) (tk_0 : Tk) (p_1 : ByteArray) (r : Bool) (hM : M_s_l1Has f p_0 p_1 = some r) (σ_0 : St) : AC Tryz.prog 149 [(LS p_0 tk_0), (.str p_1)] σ_0 (fun v s => v = (.bool r) ∧ s = σ_0) := by
 have F_0 := Fr.refl σ_0 []
 unfold M_s_l1Has at hM
 refine AC.of_body Tryz.func149 rfl rfl (by rfl) (by simp [Tryz.f149]) <| SW.seqR fun K0 hK0 => sn rfl <| R.done (hK0 _ _ (SW.seqK fun K1 hK1 => ?_))
 obtain ⟨J0, eJ0, hM⟩ := jn_elim hM
 have hJ0 : ∀  (env0 : Env) (σ0 : St), Fr σ_0 σ0 [] → J0 () = some r → K1 env0 σ0 := by
  intro env0 σ0 F0 hM
  subst eJ0
  refine hK1 _ _ <| SW.seqR fun K2 hK2 => sn rfl <| R.done (hK2 _ _ (SW.ret ?_))
  obtain rfl := si hM
  exact ret_of (rc rfl rn) (.bool false) σ_0 (Le.refl _) F0.back ⟨rfl, rfl⟩
 clear eJ0
 refine SW.seqR fun K3 hK3 => sn rfl <| R.done (hK3 _ _ (SW.block (SW.loop (LW.ind (I := fun n0 env1 σ1 => ∃ (v0 : Int), Fr σ_0 σ1 [] ∧ env1.get 0 = some (LS p_0 tk_0) ∧ env1.get 1 = some (.str p_1) ∧ env1.get 5 = some (I v0) ∧ L_s_l1Has_1 p_0 p_1 J0 n0 v0 = some r) ?_ f _ _ ⟨0, F_0, rfl, rfl, rfl, hM⟩))))
 rintro n0 env1 σ1 ⟨v0, F1, h0, h1, h2, hM⟩
 cases n0 with
 | zero => (rw [L_s_l1Has_1] at hM; cases hM)
 | succ n0 =>
  rw [L_s_l1Has_1] at hM
  refine SW.seq <| SW.seqR fun K4 hK4 => mv h2 <| mv h0 <| R.op rfl (a_lenImm ti91 rfl rfl (n := (p_0.length : Int)) (by simp) (it rfl rfl rfl (R.done (hK4 _ _ (SW.cond rfl (fun hb0 => ?_) (fun hb0 => ?_))))))
  · have hM := cT hb0 hM
    refine SW.skip <| SW.seq <| SW.block <| SW.seqR fun K5 hK5 => mv h0 <| mv h2 ?_
    obtain ⟨hg0, hM⟩ := gd hM
    obtain ⟨x0, hx0, hM⟩ := bd hM
    refine R.op rfl (a_idxImm (f := AV.str) (xs := p_0) (n := v0) (e := x0) (v := (.str x0)) ti91 rfl ti9 rfl rfl rfl (od hg0) hx0 rfl (li ti9 rfl rfl (mv h1 (sr rfl rfl rfl (R.done (hK5 _ _ (SW.cond rfl (fun hb1 => ?_) (fun hb1 => ?_))))))))
    · have hM := cT hb1 hM
      refine SW.seqR fun K6 hK6 => sn rfl <| R.done (hK6 _ _ (SW.ret (Qb (Qt (Qt (Qb (Qt ?_)))))))
      obtain rfl := si hM
      exact ret_of (rc rfl rn) (.bool true) σ_0 (Le.refl _) F1.back ⟨rfl, rfl⟩
    · have hM := cF hb1 hM
      refine SW.skip <| SW.region <| mv h2 <| it rfl rfl rfl <| sn rfl <| R.done ?_
      exact ⟨n0, Nat.lt_succ_self _, (IntKind.wrap .i64 (v0 + 1)), F1, h0, h1, rfl, hM⟩
  · have hM := cF hb0 hM
    refine SW.exit <| Qte <| Qte <| Qbx ?_
    exact hJ0  _ _ F1 hM

def M_s_NameValid (f : Nat) (p_0 : ByteArray) : Option Bool :=
 jn (fun (v0 : Bool) => (
 some (v0)
 )) fun J0 => (
 Option.bind (M_s_l1Word f p_0) fun z0 =>
 bif z0 then (
 J0 true
 ) else (
 Option.bind (M_s_l1Signs f) fun z1 =>
 Option.bind (M_s_l1Has f z1 p_0) fun z2 =>
 J0 z2
 )
 )

theorem r_s_NameValid (f : Nat) (p_0 : ByteArray) (r : Bool) (hM : M_s_NameValid f p_0 = some r) (σ_0 : St) : AC Tryz.prog 128 [(.str p_0)] σ_0 (fun v s => v = (.bool r) ∧ s = σ_0) := by
 have F_0 := Fr.refl σ_0 []
 unfold M_s_NameValid at hM
 refine AC.of_body Tryz.func128 rfl rfl (by rfl) (by simp [Tryz.f128]) <| SW.seqR fun K0 hK0 => sn rfl <| R.done (hK0 _ _ (SW.seqK fun K1 hK1 => ?_))
 obtain ⟨J0, eJ0, hM⟩ := jn_elim hM
 have hJ0 : ∀ (v0 : Bool) (env0 : Env) (σ0 : St), Fr σ_0 σ0 [] → env0.get 2 = some (.bool v0) → J0 v0 = some r → K1 env0 σ0 := by
  intro v0 env0 σ0 F0 h0 hM
  subst eJ0
  refine hK1 _ _ <| SW.ret ?_
  obtain rfl := si hM
  exact ret_of (rc h0 rn) (.bool v0) σ_0 (Le.refl _) F0.back ⟨rfl, rfl⟩
 clear eJ0
 refine SW.region <| mv rfl ?_
 obtain ⟨z0, hr0, hM⟩ := bd hM
 refine cp (r_s_l1Word f p_0 z0 hr0 _) rfl (oc rfl on) (LeL.refl _) <| mv rfl ?_
 rcases bcase z0 with hb0 | hb0
 · have hM := cT hb0 hM
   refine R.notf z0 rfl hb0 <| R.notf z0 rfl hb0 <| R.notf z0 rfl hb0 <| R.op rfl (a_pickT rfl hb0 rfl (sn rfl (R.done ?_)))
   exact hJ0 true _ _ F_0 rfl hM
 · have hM := cF hb0 hM
   obtain ⟨z1, hr1, hM⟩ := bd hM
   refine R.gof z0 rfl hb0 (a_call (g := 150) rfl on (AC.goP (r_s_l1Signs f z1 hr1 _) (LeL.refl _) (R.gof z0 rfl hb0 (a_move rfl ?_))))
   obtain ⟨z2, hr2, hM⟩ := bd hM
   refine R.gof z0 rfl hb0 (a_call (g := 149) rfl (oc rfl (oc rfl on)) (AC.goP (r_s_l1Has f z1 .full p_0 z2 hr2 _) (LeL.refl _) (R.op rfl (a_pickF rfl hb0 rfl (sn rfl (R.done ?_))))))
   exact hJ0 z2 _ _ F_0 rfl hM

def M_s_l1Own (f : Nat) (p_0 : STerm) : Option Bool :=
 bif (p_0.kind == 1) then (
 jn (fun (v0 : Bool) => (
 some (v0)
 )) fun J0 => (
 bif decide (0 ≤ p_0.n) then (
 bif decide (p_0.n ≤ 25) then (
 bif decide (p_0.name = (⟨#[]⟩ : ByteArray)) then (
 J0 ((p_0.kids.length : Int) == 0)
 ) else (
 J0 false
 )
 ) else (
 J0 false
 )
 ) else (
 J0 false
 )
 )
 ) else (
 bif (p_0.kind == 2) then (
 jn (fun (v1 : Bool) => (
 some (v1)
 )) fun J1 => (
 bif decide ((-999) ≤ p_0.n) then (
 bif decide (p_0.n ≤ 999) then (
 bif decide (p_0.name = (⟨#[]⟩ : ByteArray)) then (
 J1 ((p_0.kids.length : Int) == 0)
 ) else (
 J1 false
 )
 ) else (
 J1 false
 )
 ) else (
 J1 false
 )
 )
 ) else (
 bif (p_0.kind == 3) then (
 jn (fun (v2 : Bool) => (
 some (v2)
 )) fun J2 => (
 bif (p_0.n == 0) then (
 Option.bind (M_s_NameValid f p_0.name) fun z0 =>
 bif z0 then (
 J2 (decide ((p_0.kids.length : Int) ≤ 4))
 ) else (
 J2 false
 )
 ) else (
 J2 false
 )
 )
 ) else (
 some (false)
 )
 )
 )

theorem r_s_l1Own (f : Nat) (p_0 : STerm) (r : Bool) (hM : M_s_l1Own f p_0 = some r) (σ_0 : St) : AC Tryz.prog 145 [(.agg (cTerm p_0))] σ_0 (fun v s => v = (.bool r) ∧ s = σ_0) := by
 have F_0 := Fr.refl σ_0 []
 unfold M_s_l1Own at hM
 refine AC.of_body Tryz.func145 rfl rfl (by rfl) (by simp [Tryz.f145]) <| SW.seqR fun K0 hK0 => R.op rfl (a_box (v := (.agg (cTerm p_0))) rfl rfl fun a0 σ0 n0 s0 hF0 => ?_)
 have lo0 := F_0.lo1 n0
 have F0 := F_0.andThen hF0 Lo.nil
 refine sn rfl <| R.done (hK0 _ _ (SW.seq (SW.seqR fun K1 hK1 => fp ti25 rfl rfl rfl (by decide) (ld ti3 rfl s0 rfl (R.done (hK1 _ _ (SW.block (SW.seqR fun K2 hK2 => it rfl rfl rfl (sn rfl (R.done (hK2 _ _ (SW.cond rfl (fun hb0 => ?_) (fun hb0 => ?_)))))))))))))
 · have hM := cT hb0 hM
   refine SW.seqK fun K3 hK3 => ?_
   obtain ⟨J0, eJ0, hM⟩ := jn_elim hM
   have hJ0 : ∀ (v0 : Bool) (env0 : Env) (σ1 : St), Fr σ_0 σ1 [] → env0.get 2 = some (.bool v0) → σ1 a0 = some (.cells (cTerm p_0)) → J0 v0 = some r → K3 env0 σ1 := by
    intro v0 env0 σ1 F1 h0 s1 hM
    subst eJ0
    refine hK3 _ _ <| SW.ret <| Qb <| Qt ?_
    obtain rfl := si hM
    exact ret_of (rc h0 rn) (.bool v0) σ_0 (Le.refl _) F1.back ⟨rfl, rfl⟩
   clear eJ0
   refine SW.region <| fp ti25 rfl rfl rfl (by decide) <| ld ti3 rfl s0 rfl <| it rfl rfl rfl <| mv rfl ?_
   rcases bcase (decide (0 ≤ p_0.n)) with hb1 | hb1
   · have hM := cT hb1 hM
     refine R.go (decide (0 ≤ p_0.n)) rfl hb1 (a_fieldPtr ti25 rfl rfl rfl (by decide) (R.go (decide (0 ≤ p_0.n)) rfl hb1 (a_loadPtr ti3 rfl s0 rfl (R.go (decide (0 ≤ p_0.n)) rfl hb1 (a_int rfl rfl rfl (R.op rfl (a_pickT rfl hb1 rfl (mv rfl ?_))))))))
     rcases bcase (decide (p_0.n ≤ 25)) with hb2 | hb2
     · have hM := cT hb2 hM
       refine R.go (decide (p_0.n ≤ 25)) rfl hb2 (a_fieldPtr ti25 rfl rfl rfl (by decide) (R.go (decide (p_0.n ≤ 25)) rfl hb2 (a_loadPtr ti9 rfl s0 rfl (R.go (decide (p_0.n ≤ 25)) rfl hb2 (a_str rfl rfl rfl (R.op rfl (a_pickT rfl hb2 rfl (mv rfl ?_))))))))
       rcases bcase (decide (p_0.name = (⟨#[]⟩ : ByteArray))) with hb3 | hb3
       · have hM := cT hb3 hM
         refine R.go (decide (p_0.name = (⟨#[]⟩ : ByteArray))) rfl hb3 (a_fieldPtr ti25 rfl rfl rfl (by decide) (R.go (decide (p_0.name = (⟨#[]⟩ : ByteArray))) rfl hb3 (a_loadPtr ti23 rfl s0 rfl (R.go (decide (p_0.name = (⟨#[]⟩ : ByteArray))) rfl hb3 (a_lenImm ti23 rfl rfl (n := (p_0.kids.length : Int)) (by simp) (R.go (decide (p_0.name = (⟨#[]⟩ : ByteArray))) rfl hb3 (a_int rfl rfl rfl (R.op rfl (a_pickT rfl hb3 rfl (sn rfl (R.done ?_)))))))))))
         exact hJ0 ((p_0.kids.length : Int) == 0) _ _ F0 rfl s0 hM
       · have hM := cF hb3 hM
         refine R.not (decide (p_0.name = (⟨#[]⟩ : ByteArray))) rfl hb3 <| R.not (decide (p_0.name = (⟨#[]⟩ : ByteArray))) rfl hb3 <| R.not (decide (p_0.name = (⟨#[]⟩ : ByteArray))) rfl hb3 <| R.not (decide (p_0.name = (⟨#[]⟩ : ByteArray))) rfl hb3 <| R.op rfl (a_pickF rfl hb3 rfl (sn rfl (R.done ?_)))
         exact hJ0 false _ _ F0 rfl s0 hM
     · have hM := cF hb2 hM
       refine R.not (decide (p_0.n ≤ 25)) rfl hb2 <| R.not (decide (p_0.n ≤ 25)) rfl hb2 <| R.not (decide (p_0.n ≤ 25)) rfl hb2 <| R.op rfl (a_pickF rfl hb2 rfl (mv rfl (R.not false rfl rfl (R.not false rfl rfl (R.not false rfl rfl (R.not false rfl rfl (R.op rfl (a_pickF rfl rfl rfl (sn rfl (R.done ?_))))))))))
       exact hJ0 false _ _ F0 rfl s0 hM
   · have hM := cF hb1 hM
     refine R.not (decide (0 ≤ p_0.n)) rfl hb1 <| R.not (decide (0 ≤ p_0.n)) rfl hb1 <| R.not (decide (0 ≤ p_0.n)) rfl hb1 <| R.op rfl (a_pickF rfl hb1 rfl (mv rfl (R.not false rfl rfl (R.not false rfl rfl (R.not false rfl rfl (R.op rfl (a_pickF rfl rfl rfl (mv rfl (R.not false rfl rfl (R.not false rfl rfl (R.not false rfl rfl (R.not false rfl rfl (R.op rfl (a_pickF rfl rfl rfl (sn rfl (R.done ?_))))))))))))))))
     exact hJ0 false _ _ F0 rfl s0 hM
 · have hM := cF hb0 hM
   refine SW.seqR fun K4 hK4 => it rfl rfl rfl <| sn rfl <| R.done (hK4 _ _ (SW.cond rfl (fun hb4 => ?_) (fun hb4 => ?_)))
   · have hM := cT hb4 hM
     refine SW.seqK fun K5 hK5 => ?_
     obtain ⟨J1, eJ1, hM⟩ := jn_elim hM
     have hJ1 : ∀ (v1 : Bool) (env1 : Env) (σ2 : St), Fr σ_0 σ2 [] → env1.get 2 = some (.bool v1) → σ2 a0 = some (.cells (cTerm p_0)) → J1 v1 = some r → K5 env1 σ2 := by
      intro v1 env1 σ2 F2 h1 s2 hM
      subst eJ1
      refine hK5 _ _ <| SW.ret <| Qb <| Qt ?_
      obtain rfl := si hM
      exact ret_of (rc h1 rn) (.bool v1) σ_0 (Le.refl _) F2.back ⟨rfl, rfl⟩
     clear eJ1
     refine SW.region <| fp ti25 rfl rfl rfl (by decide) <| ld ti3 rfl s0 rfl <| it rfl rfl rfl <| mv rfl ?_
     rcases bcase (decide ((-999) ≤ p_0.n)) with hb5 | hb5
     · have hM := cT hb5 hM
       refine R.go (decide ((-999) ≤ p_0.n)) rfl hb5 (a_fieldPtr ti25 rfl rfl rfl (by decide) (R.go (decide ((-999) ≤ p_0.n)) rfl hb5 (a_loadPtr ti3 rfl s0 rfl (R.go (decide ((-999) ≤ p_0.n)) rfl hb5 (a_int rfl rfl rfl (R.op rfl (a_pickT rfl hb5 rfl (mv rfl ?_))))))))
       rcases bcase (decide (p_0.n ≤ 999)) with hb6 | hb6
       · have hM := cT hb6 hM
         refine R.go (decide (p_0.n ≤ 999)) rfl hb6 (a_fieldPtr ti25 rfl rfl rfl (by decide) (R.go (decide (p_0.n ≤ 999)) rfl hb6 (a_loadPtr ti9 rfl s0 rfl (R.go (decide (p_0.n ≤ 999)) rfl hb6 (a_str rfl rfl rfl (R.op rfl (a_pickT rfl hb6 rfl (mv rfl ?_))))))))
         rcases bcase (decide (p_0.name = (⟨#[]⟩ : ByteArray))) with hb7 | hb7
         · have hM := cT hb7 hM
           refine R.go (decide (p_0.name = (⟨#[]⟩ : ByteArray))) rfl hb7 (a_fieldPtr ti25 rfl rfl rfl (by decide) (R.go (decide (p_0.name = (⟨#[]⟩ : ByteArray))) rfl hb7 (a_loadPtr ti23 rfl s0 rfl (R.go (decide (p_0.name = (⟨#[]⟩ : ByteArray))) rfl hb7 (a_lenImm ti23 rfl rfl (n := (p_0.kids.length : Int)) (by simp) (R.go (decide (p_0.name = (⟨#[]⟩ : ByteArray))) rfl hb7 (a_int rfl rfl rfl (R.op rfl (a_pickT rfl hb7 rfl (sn rfl (R.done ?_)))))))))))
           exact hJ1 ((p_0.kids.length : Int) == 0) _ _ F0 rfl s0 hM
         · have hM := cF hb7 hM
           refine R.not (decide (p_0.name = (⟨#[]⟩ : ByteArray))) rfl hb7 <| R.not (decide (p_0.name = (⟨#[]⟩ : ByteArray))) rfl hb7 <| R.not (decide (p_0.name = (⟨#[]⟩ : ByteArray))) rfl hb7 <| R.not (decide (p_0.name = (⟨#[]⟩ : ByteArray))) rfl hb7 <| R.op rfl (a_pickF rfl hb7 rfl (sn rfl (R.done ?_)))
           exact hJ1 false _ _ F0 rfl s0 hM
       · have hM := cF hb6 hM
         refine R.not (decide (p_0.n ≤ 999)) rfl hb6 <| R.not (decide (p_0.n ≤ 999)) rfl hb6 <| R.not (decide (p_0.n ≤ 999)) rfl hb6 <| R.op rfl (a_pickF rfl hb6 rfl (mv rfl (R.not false rfl rfl (R.not false rfl rfl (R.not false rfl rfl (R.not false rfl rfl (R.op rfl (a_pickF rfl rfl rfl (sn rfl (R.done ?_))))))))))
         exact hJ1 false _ _ F0 rfl s0 hM
     · have hM := cF hb5 hM
       refine R.not (decide ((-999) ≤ p_0.n)) rfl hb5 <| R.not (decide ((-999) ≤ p_0.n)) rfl hb5 <| R.not (decide ((-999) ≤ p_0.n)) rfl hb5 <| R.op rfl (a_pickF rfl hb5 rfl (mv rfl (R.not false rfl rfl (R.not false rfl rfl (R.not false rfl rfl (R.op rfl (a_pickF rfl rfl rfl (mv rfl (R.not false rfl rfl (R.not false rfl rfl (R.not false rfl rfl (R.not false rfl rfl (R.op rfl (a_pickF rfl rfl rfl (sn rfl (R.done ?_))))))))))))))))
       exact hJ1 false _ _ F0 rfl s0 hM
   · have hM := cF hb4 hM
     refine SW.seqR fun K6 hK6 => it rfl rfl rfl <| sn rfl <| R.done (hK6 _ _ (SW.cond rfl (fun hb8 => ?_) (fun hb8 => ?_)))
     · have hM := cT hb8 hM
       refine SW.seqK fun K7 hK7 => ?_
       obtain ⟨J2, eJ2, hM⟩ := jn_elim hM
       have hJ2 : ∀ (v2 : Bool) (env2 : Env) (σ3 : St), Fr σ_0 σ3 [] → env2.get 2 = some (.bool v2) → σ3 a0 = some (.cells (cTerm p_0)) → J2 v2 = some r → K7 env2 σ3 := by
        intro v2 env2 σ3 F3 h2 s3 hM
        subst eJ2
        refine hK7 _ _ <| SW.ret <| Qb <| Qt ?_
        obtain rfl := si hM
        exact ret_of (rc h2 rn) (.bool v2) σ_0 (Le.refl _) F3.back ⟨rfl, rfl⟩
       clear eJ2
       refine SW.region <| fp ti25 rfl rfl rfl (by decide) <| ld ti3 rfl s0 rfl <| it rfl rfl rfl <| mv rfl ?_
       rcases bcase (p_0.n == 0) with hb9 | hb9
       · have hM := cT hb9 hM
         refine R.go (p_0.n == 0) rfl hb9 (a_fieldPtr ti25 rfl rfl rfl (by decide) (R.go (p_0.n == 0) rfl hb9 (a_loadPtr ti9 rfl s0 rfl ?_)))
         obtain ⟨z0, hr0, hM⟩ := bd hM
         refine R.go (p_0.n == 0) rfl hb9 (a_call (g := 128) rfl (oc rfl on) (AC.goP (r_s_NameValid f p_0.name z0 hr0 _) (LeL.refl _) (R.op rfl (a_pickT rfl hb9 rfl (mv rfl ?_)))))
         rcases bcase z0 with hba | hba
         · have hM := cT hba hM
           refine R.go z0 rfl hba (a_fieldPtr ti25 rfl rfl rfl (by decide) (R.go z0 rfl hba (a_loadPtr ti23 rfl s0 rfl (R.go z0 rfl hba (a_lenImm ti23 rfl rfl (n := (p_0.kids.length : Int)) (by simp) (R.go z0 rfl hba (a_int rfl rfl rfl (R.op rfl (a_pickT rfl hba rfl (sn rfl (R.done ?_)))))))))))
           exact hJ2 (decide ((p_0.kids.length : Int) ≤ 4)) _ _ F0 rfl s0 hM
         · have hM := cF hba hM
           refine R.not z0 rfl hba <| R.not z0 rfl hba <| R.not z0 rfl hba <| R.not z0 rfl hba <| R.op rfl (a_pickF rfl hba rfl (sn rfl (R.done ?_)))
           exact hJ2 false _ _ F0 rfl s0 hM
       · have hM := cF hb9 hM
         refine R.not (p_0.n == 0) rfl hb9 <| R.not (p_0.n == 0) rfl hb9 <| R.not (p_0.n == 0) rfl hb9 <| R.op rfl (a_pickF rfl hb9 rfl (mv rfl (R.not false rfl rfl (R.not false rfl rfl (R.not false rfl rfl (R.not false rfl rfl (R.op rfl (a_pickF rfl rfl rfl (sn rfl (R.done ?_))))))))))
         exact hJ2 false _ _ F0 rfl s0 hM
     · have hM := cF hb8 hM
       refine SW.skip <| SW.seqR fun K8 hK8 => sn rfl <| R.done (hK8 _ _ (SW.ret ?_))
       obtain rfl := si hM
       exact ret_of (rc rfl rn) (.bool false) σ_0 (Le.refl _) F0.back ⟨rfl, rfl⟩

def L_s_l1Shape_1 (c_s_l1Shape : STerm → Int → Option Bool) (p_0 : STerm) (p_1 : Int) (J0 : Unit → Option Bool) : Nat → Int → Option Bool
 | 0, _ => none
 | n + 1, v0 =>
 bif decide (v0 < (p_0.kids.length : Int)) then (
 bif decide (0 ≤ v0) then
 Option.bind (p_0.kids[(v0 : Int).toNat]?) fun x0 =>
 Option.bind (c_s_l1Shape x0 (IntKind.wrap .i64 (p_1 - 1))) fun z0 =>
 bif (!z0) then (
 some (false)
 ) else (
 L_s_l1Shape_1 c_s_l1Shape p_0 p_1 J0 n (IntKind.wrap .i64 (v0 + 1))
 )
 else none
 ) else (
 J0 ()
 )

def B_s_l1Shape (f : Nat) (c_s_l1Shape : STerm → Int → Option Bool) (p_0 : STerm) (p_1 : Int) : Option Bool :=
 jn (fun (v1 : Bool) => (
 bif v1 then (
 some (false)
 ) else (
 jn (fun (_ : Unit) => (
 some (true)
 )) fun J0 => (
 L_s_l1Shape_1 c_s_l1Shape p_0 p_1 J0 f 0
 )
 )
 )) fun J1 => (
 bif decide (p_1 < 1) then (
 J1 true
 ) else (
 Option.bind (M_s_l1Own f p_0) fun z1 =>
 J1 (!z1)
 )
 )

def M_s_l1Shape : Nat → STerm → Int → Option Bool
 | 0, _, _ => none
 | f + 1, p_0, p_1 => B_s_l1Shape f (M_s_l1Shape f) p_0 p_1

def Q_s_l1Shape (c : STerm → Int → Option Bool) : Prop := ∀ (p_0 : STerm) (p_1 : Int) (r : Bool), c p_0 p_1 = some r → ∀ (σ_0 : St), AC Tryz.prog 112 [(.agg (cTerm p_0)), (I p_1)] σ_0 (fun v s => v = (.bool r) ∧ s = σ_0)

theorem b_s_l1Shape (f : Nat) {c_s_l1Shape : STerm → Int → Option Bool} (ih_s_l1Shape : Q_s_l1Shape c_s_l1Shape) : Q_s_l1Shape (B_s_l1Shape f c_s_l1Shape) := by
 intro p_0 p_1 r hM σ_0
 have F_0 := Fr.refl σ_0 []
 unfold B_s_l1Shape at hM
 refine AC.of_body Tryz.func112 rfl rfl (by rfl) (by simp [Tryz.f112]) <| SW.seqR fun K0 hK0 => R.op rfl (a_box (v := (.agg (cTerm p_0))) rfl rfl fun a0 σ0 n0 s0 hF0 => ?_)
 have lo0 := F_0.lo1 n0
 have F0 := F_0.andThen hF0 Lo.nil
 refine sn rfl <| R.done (hK0 _ _ (SW.seq (SW.seqK fun K1 hK1 => ?_)))
 obtain ⟨J1, eJ0, hM⟩ := jn_elim hM
 have hJ0 : ∀ (v1 : Bool) (env0 : Env) (σ1 : St), Fr σ_0 σ1 [] → env0.get 1 = some (I p_1) → env0.get 2 = some (.ptr a0 0) → env0.get 12 = some (.bool v1) → σ1 a0 = some (.cells (cTerm p_0)) → J1 v1 = some r → K1 env0 σ1 := by
  intro v1 env0 σ1 F1 h0 h1 h2 s1 hM
  subst eJ0
  refine hK1 _ _ <| SW.cond h2 (fun hb0 => ?_) (fun hb0 => ?_)
  · have hM := cT hb0 hM
    refine SW.seqR fun K2 hK2 => sn rfl <| R.done (hK2 _ _ (SW.ret (Qt ?_)))
    obtain rfl := si hM
    exact ret_of (rc rfl rn) (.bool false) σ_0 (Le.refl _) F1.back ⟨rfl, rfl⟩
  · have hM := cF hb0 hM
    refine SW.skip <| SW.seqK fun K3 hK3 => ?_
    obtain ⟨J0, eJ1, hM⟩ := jn_elim hM
    have hJ1 : ∀  (env1 : Env) (σ2 : St), Fr σ_0 σ2 [] → σ2 a0 = some (.cells (cTerm p_0)) → J0 () = some r → K3 env1 σ2 := by
     intro env1 σ2 F2 s2 hM
     subst eJ1
     refine hK3 _ _ <| SW.seqR fun K4 hK4 => sn rfl <| R.done (hK4 _ _ (SW.ret ?_))
     obtain rfl := si hM
     exact ret_of (rc rfl rn) (.bool true) σ_0 (Le.refl _) F2.back ⟨rfl, rfl⟩
    clear eJ1
    refine SW.seqR fun K5 hK5 => sn rfl <| R.done (hK5 _ _ (SW.block (SW.loop (LW.ind (I := fun n1 env2 σ3 => ∃ (v0 : Int), Fr σ_0 σ3 [] ∧ env2.get 1 = some (I p_1) ∧ env2.get 2 = some (.ptr a0 0) ∧ env2.get 5 = some (I v0) ∧ σ3 a0 = some (.cells (cTerm p_0)) ∧ L_s_l1Shape_1 c_s_l1Shape p_0 p_1 J0 n1 v0 = some r) ?_ f _ _ ⟨0, F1, h0, h1, rfl, s1, hM⟩))))
    rintro n1 env2 σ3 ⟨v0, F3, h3, h4, h5, s3, hM⟩
    cases n1 with
    | zero => (rw [L_s_l1Shape_1] at hM; cases hM)
    | succ n1 =>
     rw [L_s_l1Shape_1] at hM
     refine SW.seq <| SW.seqR fun K6 hK6 => mv h5 <| fp ti25 rfl h4 rfl (by decide) <| ld ti23 rfl s3 rfl <| R.op rfl (a_lenImm ti23 rfl rfl (n := (p_0.kids.length : Int)) (by simp) (it rfl rfl rfl (R.done (hK6 _ _ (SW.cond rfl (fun hb1 => ?_) (fun hb1 => ?_))))))
     · have hM := cT hb1 hM
       refine SW.skip <| SW.seq <| SW.block <| SW.seqR fun K7 hK7 => fp ti25 rfl h4 rfl (by decide) <| ld ti23 rfl s3 rfl <| mv h5 ?_
       obtain ⟨hg0, hM⟩ := gd hM
       obtain ⟨x0, hx0, hM⟩ := bd hM
       refine R.op rfl (a_idxImm (f := eTerm) (xs := p_0.kids) (n := v0) (e := x0) (v := (.agg (cTerm x0))) ti23 rfl ti25 rfl rfl rfl (od hg0) hx0 (eTerm_eq x0) (li (v := (.agg (cTerm x0))) ti25 rfl rfl (mv h3 (it rfl rfl rfl ?_))))
       obtain ⟨z0, hr0, hM⟩ := bd hM
       refine cp (ih_s_l1Shape x0 (IntKind.wrap .i64 (p_1 - 1)) z0 hr0 _) rfl (oc rfl (oc rfl on)) (LeL.refl _) <| no rfl <| R.done (hK7 _ _ (SW.cond rfl (fun hb2 => ?_) (fun hb2 => ?_)))
       · have hM := cT hb2 hM
         refine SW.seqR fun K8 hK8 => sn rfl <| R.done (hK8 _ _ (SW.ret (Qb (Qt (Qt (Qb (Qt ?_)))))))
         obtain rfl := si hM
         exact ret_of (rc rfl rn) (.bool false) σ_0 (Le.refl _) F3.back ⟨rfl, rfl⟩
       · have hM := cF hb2 hM
         refine SW.skip <| SW.region <| mv h5 <| it rfl rfl rfl <| sn rfl <| R.done ?_
         exact ⟨n1, Nat.lt_succ_self _, (IntKind.wrap .i64 (v0 + 1)), F3, h3, h4, rfl, s3, hM⟩
     · have hM := cF hb1 hM
       refine SW.exit <| Qte <| Qte <| Qbx ?_
       exact hJ1  _ _ F3 s3 hM
 clear eJ0
 refine SW.region <| mv rfl <| it rfl rfl rfl <| mv rfl ?_
 rcases bcase (decide (p_1 < 1)) with hb3 | hb3
 · have hM := cT hb3 hM
   refine R.notf (decide (p_1 < 1)) rfl hb3 <| R.notf (decide (p_1 < 1)) rfl hb3 <| R.notf (decide (p_1 < 1)) rfl hb3 <| R.op rfl (a_pickT rfl hb3 rfl (R.done ?_))
   exact hJ0 true _ _ F0 rfl rfl rfl s0 hM
 · have hM := cF hb3 hM
   refine R.gof (decide (p_1 < 1)) rfl hb3 (a_loadPtr (v := (.agg (cTerm p_0))) ti25 rfl s0 rfl ?_)
   obtain ⟨z1, hr1, hM⟩ := bd hM
   refine R.gof (decide (p_1 < 1)) rfl hb3 (a_call (g := 145) rfl (oc rfl on) (AC.goP (r_s_l1Own f p_0 z1 hr1 _) (LeL.refl _) (R.gof (decide (p_1 < 1)) rfl hb3 (a_not rfl (R.op rfl (a_pickF rfl hb3 rfl (R.done ?_)))))))
   exact hJ0 (!z1) _ _ F0 rfl rfl rfl s0 hM

theorem rr_s_l1Shape (f : Nat) : Q_s_l1Shape (M_s_l1Shape f) := by
 induction f with
 | zero => exact by intro p_0 p_1 r hM; rw [M_s_l1Shape] at hM; cases hM
 | succ f ih => exact by intro p_0 p_1 r hM; rw [M_s_l1Shape] at hM; exact b_s_l1Shape f ih p_0 p_1 r hM

theorem r_s_l1Shape (f : Nat) : Q_s_l1Shape (M_s_l1Shape f) := (rr_s_l1Shape f)

def L_s_l1Count_1 (c_s_l1Count : STerm → Int → Option Int) (p_0 : STerm) (p_1 : Int) (J0 : Int → Option Int) : Nat → Int → Int → Option Int
 | 0, _, _ => none
 | n + 1, v0, v1 =>
 jn (fun (v2 : Bool) => (
 bif v2 then (
 bif decide (0 ≤ v1) then
 Option.bind (p_0.kids[(v1 : Int).toNat]?) fun x0 =>
 Option.bind (c_s_l1Count x0 (IntKind.wrap .i64 (p_1 - v0))) fun z0 =>
 L_s_l1Count_1 c_s_l1Count p_0 p_1 J0 n (IntKind.wrap .i64 (v0 + z0)) (IntKind.wrap .i64 (v1 + 1))
 else none
 ) else (
 J0 v0
 )
 )) fun J1 => (
 bif decide (v1 < (p_0.kids.length : Int)) then (
 J1 (decide (v0 ≤ p_1))
 ) else (
 J1 false
 )
 )

def B_s_l1Count (f : Nat) (c_s_l1Count : STerm → Int → Option Int) (p_0 : STerm) (p_1 : Int) : Option Int :=
 jn (fun (v3 : Int) => (
 some (v3)
 )) fun J0 => (
 L_s_l1Count_1 c_s_l1Count p_0 p_1 J0 f 1 0
 )

def M_s_l1Count : Nat → STerm → Int → Option Int
 | 0, _, _ => none
 | f + 1, p_0, p_1 => B_s_l1Count f (M_s_l1Count f) p_0 p_1

def Q_s_l1Count (c : STerm → Int → Option Int) : Prop := ∀ (p_0 : STerm) (p_1 : Int) (r : Int), c p_0 p_1 = some r → ∀ (σ_0 : St), AC Tryz.prog 113 [(.agg (cTerm p_0)), (I p_1)] σ_0 (fun v s => v = (I r) ∧ s = σ_0)

theorem b_s_l1Count (f : Nat) {c_s_l1Count : STerm → Int → Option Int} (ih_s_l1Count : Q_s_l1Count c_s_l1Count) : Q_s_l1Count (B_s_l1Count f c_s_l1Count) := by
 intro p_0 p_1 r hM σ_0
 have F_0 := Fr.refl σ_0 []
 unfold B_s_l1Count at hM
 refine AC.of_body Tryz.func113 rfl rfl (by rfl) (by simp [Tryz.f113]) <| SW.seqR fun K0 hK0 => R.op rfl (a_box (v := (.agg (cTerm p_0))) rfl rfl fun a0 σ0 n0 s0 hF0 => ?_)
 have lo0 := F_0.lo1 n0
 have F0 := F_0.andThen hF0 Lo.nil
 refine sn rfl <| R.done (hK0 _ _ (SW.seqR fun K1 hK1 => sn rfl (R.done (hK1 _ _ (SW.seqK fun K2 hK2 => ?_)))))
 obtain ⟨J0, eJ0, hM⟩ := jn_elim hM
 have hJ0 : ∀ (v3 : Int) (env0 : Env) (σ1 : St), Fr σ_0 σ1 [] → env0.get 5 = some (I v3) → σ1 a0 = some (.cells (cTerm p_0)) → J0 v3 = some r → K2 env0 σ1 := by
  intro v3 env0 σ1 F1 h0 s1 hM
  subst eJ0
  refine hK2 _ _ <| SW.seqR fun K3 hK3 => mv h0 <| sn rfl <| R.done (hK3 _ _ (SW.ret ?_))
  obtain rfl := si hM
  exact ret_of (rc rfl rn) (I v3) σ_0 (Le.refl _) F1.back ⟨rfl, rfl⟩
 clear eJ0
 refine SW.seqR fun K4 hK4 => sn rfl <| R.done (hK4 _ _ (SW.block (SW.loop (LW.ind (I := fun n1 env1 σ2 => ∃ (v0 : Int) (v1 : Int), Fr σ_0 σ2 [] ∧ env1.get 1 = some (I p_1) ∧ env1.get 2 = some (.ptr a0 0) ∧ env1.get 5 = some (I v0) ∧ env1.get 6 = some (I v1) ∧ σ2 a0 = some (.cells (cTerm p_0)) ∧ L_s_l1Count_1 c_s_l1Count p_0 p_1 J0 n1 v0 v1 = some r) ?_ f _ _ ⟨1, 0, F0, rfl, rfl, rfl, rfl, s0, hM⟩))))
 rintro n1 env1 σ2 ⟨v0, v1, F2, h1, h2, h3, h4, s2, hM⟩
 cases n1 with
 | zero => (rw [L_s_l1Count_1] at hM; cases hM)
 | succ n1 =>
  rw [L_s_l1Count_1] at hM
  refine SW.seq <| SW.seqK fun K5 hK5 => ?_
  obtain ⟨J1, eJ1, hM⟩ := jn_elim hM
  have hJ1 : ∀ (v2 : Bool) (env2 : Env) (σ3 : St), Fr σ_0 σ3 [] → env2.get 1 = some (I p_1) → env2.get 2 = some (.ptr a0 0) → env2.get 5 = some (I v0) → env2.get 6 = some (I v1) → env2.get 16 = some (.bool v2) → σ3 a0 = some (.cells (cTerm p_0)) → J1 v2 = some r → K5 env2 σ3 := by
   intro v2 env2 σ3 F3 h5 h6 h7 h8 h9 s3 hM
   subst eJ1
   refine hK5 _ _ <| SW.cond h9 (fun hb0 => ?_) (fun hb0 => ?_)
   · have hM := cT hb0 hM
     refine SW.skip <| SW.seq <| SW.block <| SW.region <| mv h7 <| fp ti25 rfl h6 rfl (by decide) <| ld ti23 rfl s3 rfl <| mv h8 ?_
     obtain ⟨hg0, hM⟩ := gd hM
     obtain ⟨x0, hx0, hM⟩ := bd hM
     refine R.op rfl (a_idxImm (f := eTerm) (xs := p_0.kids) (n := v1) (e := x0) (v := (.agg (cTerm x0))) ti23 rfl ti25 rfl rfl rfl (od hg0) hx0 (eTerm_eq x0) (li (v := (.agg (cTerm x0))) ti25 rfl rfl (mv h5 (mv h7 (it rfl rfl rfl ?_)))))
     obtain ⟨z0, hr0, hM⟩ := bd hM
     refine cp (ih_s_l1Count x0 (IntKind.wrap .i64 (p_1 - v0)) z0 hr0 _) rfl (oc rfl (oc rfl on)) (LeL.refl _) <| it rfl rfl rfl <| sn rfl <| R.done <| SW.region <| mv h8 <| it rfl rfl rfl <| sn rfl <| R.done ?_
     exact ⟨n1, Nat.lt_succ_self _, (IntKind.wrap .i64 (v0 + z0)), (IntKind.wrap .i64 (v1 + 1)), F3, h5, h6, rfl, rfl, s3, hM⟩
   · have hM := cF hb0 hM
     refine SW.exit <| Qte <| Qte <| Qbx ?_
     exact hJ0 v0 _ _ F3 h7 s3 hM
  clear eJ1
  refine SW.region <| mv h4 <| fp ti25 rfl h2 rfl (by decide) <| ld ti23 rfl s2 rfl <| R.op rfl (a_lenImm ti23 rfl rfl (n := (p_0.kids.length : Int)) (by simp) (it rfl rfl rfl (mv rfl ?_)))
  rcases bcase (decide (v1 < (p_0.kids.length : Int))) with hb1 | hb1
  · have hM := cT hb1 hM
    refine R.go (decide (v1 < (p_0.kids.length : Int))) rfl hb1 (a_move h3 (R.go (decide (v1 < (p_0.kids.length : Int))) rfl hb1 (a_move h1 (R.go (decide (v1 < (p_0.kids.length : Int))) rfl hb1 (a_int rfl rfl rfl (R.op rfl (a_pickT rfl hb1 rfl (R.done ?_))))))))
    exact hJ1 (decide (v0 ≤ p_1)) _ _ F2 h1 h2 h3 h4 rfl s2 hM
  · have hM := cF hb1 hM
    refine R.not (decide (v1 < (p_0.kids.length : Int))) rfl hb1 <| R.not (decide (v1 < (p_0.kids.length : Int))) rfl hb1 <| R.not (decide (v1 < (p_0.kids.length : Int))) rfl hb1 <| R.op rfl (a_pickF rfl hb1 rfl (R.done ?_))
    exact hJ1 false _ _ F2 h1 h2 h3 h4 rfl s2 hM

theorem rr_s_l1Count (f : Nat) : Q_s_l1Count (M_s_l1Count f) := by
 induction f with
 | zero => exact by intro p_0 p_1 r hM; rw [M_s_l1Count] at hM; cases hM
 | succ f ih => exact by intro p_0 p_1 r hM; rw [M_s_l1Count] at hM; exact b_s_l1Count f ih p_0 p_1 r hM

theorem r_s_l1Count (f : Nat) : Q_s_l1Count (M_s_l1Count f) := (rr_s_l1Count f)

def M_s_TermValid (f : Nat) (p_0 : STerm) : Option Bool :=
 jn (fun (v0 : Bool) => (
 some (v0)
 )) fun J0 => (
 Option.bind (M_s_l1Shape f p_0 30) fun z0 =>
 bif z0 then (
 Option.bind (M_s_l1Count f p_0 120) fun z1 =>
 J0 (decide (z1 ≤ 120))
 ) else (
 J0 false
 )
 )

theorem r_s_TermValid (f : Nat) (p_0 : STerm) (r : Bool) (hM : M_s_TermValid f p_0 = some r) (σ_0 : St) : AC Tryz.prog 71 [(.agg (cTerm p_0))] σ_0 (fun v s => v = (.bool r) ∧ s = σ_0) := by
 have F_0 := Fr.refl σ_0 []
 unfold M_s_TermValid at hM
 refine AC.of_body Tryz.func71 rfl rfl (by rfl) (by simp [Tryz.f71]) <| SW.seqR fun K0 hK0 => R.op rfl (a_box (v := (.agg (cTerm p_0))) rfl rfl fun a0 σ0 n0 s0 hF0 => ?_)
 have lo0 := F_0.lo1 n0
 have F0 := F_0.andThen hF0 Lo.nil
 refine sn rfl <| R.done (hK0 _ _ (SW.seqK fun K1 hK1 => ?_))
 obtain ⟨J0, eJ0, hM⟩ := jn_elim hM
 have hJ0 : ∀ (v0 : Bool) (env0 : Env) (σ1 : St), Fr σ_0 σ1 [] → env0.get 2 = some (.bool v0) → σ1 a0 = some (.cells (cTerm p_0)) → J0 v0 = some r → K1 env0 σ1 := by
  intro v0 env0 σ1 F1 h0 s1 hM
  subst eJ0
  refine hK1 _ _ <| SW.ret ?_
  obtain rfl := si hM
  exact ret_of (rc h0 rn) (.bool v0) σ_0 (Le.refl _) F1.back ⟨rfl, rfl⟩
 clear eJ0
 refine SW.region <| ld (v := (.agg (cTerm p_0))) ti25 rfl s0 rfl ?_
 obtain ⟨z0, hr0, hM⟩ := bd hM
 refine cp (r_s_l1Shape f p_0 30 z0 hr0 _) rfl (oc rfl (oc rfl on)) (LeL.refl _) <| mv rfl ?_
 rcases bcase z0 with hb0 | hb0
 · have hM := cT hb0 hM
   refine R.go z0 rfl hb0 (a_loadPtr (v := (.agg (cTerm p_0))) ti25 rfl s0 rfl ?_)
   obtain ⟨z1, hr1, hM⟩ := bd hM
   refine R.go z0 rfl hb0 (a_call (g := 113) rfl (oc rfl (oc rfl on)) (AC.goP (r_s_l1Count f p_0 120 z1 hr1 _) (LeL.refl _) (R.go z0 rfl hb0 (a_int rfl rfl rfl (R.op rfl (a_pickT rfl hb0 rfl (sn rfl (R.done ?_))))))))
   exact hJ0 (decide (z1 ≤ 120)) _ _ F0 rfl s0 hM
 · have hM := cF hb0 hM
   refine R.not z0 rfl hb0 <| R.not z0 rfl hb0 <| R.not z0 rfl hb0 <| R.op rfl (a_pickF rfl hb0 rfl (sn rfl (R.done ?_)))
   exact hJ0 false _ _ F0 rfl s0 hM

def M_s_IsBuiltin (f : Nat) (p_0 : ByteArray) (p_1 : Int) : Option Bool :=
 jn (fun (v0 : Bool) => (
 bif v0 then (
 some ((p_1 == 2))
 ) else (
 jn (fun (v1 : Bool) => (
 bif v1 then (
 some ((p_1 == 0))
 ) else (
 jn (fun (v2 : Bool) => (
 bif v2 then (
 some ((p_1 == 1))
 ) else (
 bif decide (p_0 = (⟨#[97, 114, 103]⟩ : ByteArray)) then (
 some ((p_1 == 3))
 ) else (
 some (false)
 )
 )
 )) fun J0 => (
 bif decide (p_0 = (⟨#[118, 97, 114]⟩ : ByteArray)) then (
 J0 (decide (p_0 = (⟨#[118, 97, 114]⟩ : ByteArray)))
 ) else (
 bif decide (p_0 = (⟨#[110, 111, 110, 118, 97, 114]⟩ : ByteArray)) then (
 J0 (decide (p_0 = (⟨#[110, 111, 110, 118, 97, 114]⟩ : ByteArray)))
 ) else (
 bif decide (p_0 = (⟨#[97, 116, 111, 109]⟩ : ByteArray)) then (
 J0 (decide (p_0 = (⟨#[97, 116, 111, 109]⟩ : ByteArray)))
 ) else (
 J0 (decide (p_0 = (⟨#[105, 110, 116]⟩ : ByteArray)))
 )
 )
 )
 )
 )
 )) fun J1 => (
 bif decide (p_0 = (⟨#[116, 114, 117, 101]⟩ : ByteArray)) then (
 J1 (decide (p_0 = (⟨#[116, 114, 117, 101]⟩ : ByteArray)))
 ) else (
 J1 (decide (p_0 = (⟨#[102, 97, 105, 108]⟩ : ByteArray)))
 )
 )
 )
 )) fun J2 => (
 bif decide (p_0 = (⟨#[61]⟩ : ByteArray)) then (
 J2 (decide (p_0 = (⟨#[61]⟩ : ByteArray)))
 ) else (
 bif decide (p_0 = (⟨#[92, 61]⟩ : ByteArray)) then (
 J2 (decide (p_0 = (⟨#[92, 61]⟩ : ByteArray)))
 ) else (
 bif decide (p_0 = (⟨#[61, 61]⟩ : ByteArray)) then (
 J2 (decide (p_0 = (⟨#[61, 61]⟩ : ByteArray)))
 ) else (
 bif decide (p_0 = (⟨#[60]⟩ : ByteArray)) then (
 J2 (decide (p_0 = (⟨#[60]⟩ : ByteArray)))
 ) else (
 bif decide (p_0 = (⟨#[62]⟩ : ByteArray)) then (
 J2 (decide (p_0 = (⟨#[62]⟩ : ByteArray)))
 ) else (
 bif decide (p_0 = (⟨#[61, 60]⟩ : ByteArray)) then (
 J2 (decide (p_0 = (⟨#[61, 60]⟩ : ByteArray)))
 ) else (
 bif decide (p_0 = (⟨#[62, 61]⟩ : ByteArray)) then (
 J2 (decide (p_0 = (⟨#[62, 61]⟩ : ByteArray)))
 ) else (
 bif decide (p_0 = (⟨#[61, 58, 61]⟩ : ByteArray)) then (
 J2 (decide (p_0 = (⟨#[61, 58, 61]⟩ : ByteArray)))
 ) else (
 J2 (decide (p_0 = (⟨#[105, 115]⟩ : ByteArray)))
 )
 )
 )
 )
 )
 )
 )
 )
 )

theorem r_s_IsBuiltin (f : Nat) (p_0 : ByteArray) (p_1 : Int) (r : Bool) (hM : M_s_IsBuiltin f p_0 p_1 = some r) (σ_0 : St) : AC Tryz.prog 115 [(.str p_0), (I p_1)] σ_0 (fun v s => v = (.bool r) ∧ s = σ_0) := by
 have F_0 := Fr.refl σ_0 []
 unfold M_s_IsBuiltin at hM
 refine AC.of_body Tryz.func115 rfl rfl (by rfl) (by simp [Tryz.f115]) <| SW.seqR fun K0 hK0 => sn rfl <| R.done (hK0 _ _ (SW.seq (SW.seqR fun K1 hK1 => mv rfl (R.done (hK1 _ _ (SW.block (SW.seqK fun K2 hK2 => ?_)))))))
 obtain ⟨J2, eJ0, hM⟩ := jn_elim hM
 have hJ0 : ∀ (v0 : Bool) (env0 : Env) (σ0 : St), Fr σ_0 σ0 [] → env0.get 1 = some (I p_1) → env0.get 5 = some (.str p_0) → env0.get 6 = some (.bool v0) → J2 v0 = some r → K2 env0 σ0 := by
  intro v0 env0 σ0 F0 h0 h1 h2 hM
  subst eJ0
  refine hK2 _ _ <| SW.cond h2 (fun hb0 => ?_) (fun hb0 => ?_)
  · have hM := cT hb0 hM
    refine SW.seqR fun K3 hK3 => mv h0 <| it rfl rfl rfl <| sn rfl <| R.done (hK3 _ _ (SW.ret (Qb (Qt ?_))))
    obtain rfl := si hM
    exact ret_of (rc rfl rn) (.bool (p_1 == 2)) σ_0 (Le.refl _) F0.back ⟨rfl, rfl⟩
  · have hM := cF hb0 hM
    refine SW.seqK fun K4 hK4 => ?_
    obtain ⟨J1, eJ1, hM⟩ := jn_elim hM
    have hJ1 : ∀ (v1 : Bool) (env1 : Env) (σ1 : St), Fr σ_0 σ1 [] → env1.get 1 = some (I p_1) → env1.get 5 = some (.str p_0) → env1.get 18 = some (.bool v1) → J1 v1 = some r → K4 env1 σ1 := by
     intro v1 env1 σ1 F1 h3 h4 h5 hM
     subst eJ1
     refine hK4 _ _ <| SW.cond h5 (fun hb1 => ?_) (fun hb1 => ?_)
     · have hM := cT hb1 hM
       refine SW.seqR fun K5 hK5 => mv h3 <| it rfl rfl rfl <| sn rfl <| R.done (hK5 _ _ (SW.ret (Qb (Qt ?_))))
       obtain rfl := si hM
       exact ret_of (rc rfl rn) (.bool (p_1 == 0)) σ_0 (Le.refl _) F1.back ⟨rfl, rfl⟩
     · have hM := cF hb1 hM
       refine SW.seqK fun K6 hK6 => ?_
       obtain ⟨J0, eJ2, hM⟩ := jn_elim hM
       have hJ2 : ∀ (v2 : Bool) (env2 : Env) (σ2 : St), Fr σ_0 σ2 [] → env2.get 1 = some (I p_1) → env2.get 5 = some (.str p_0) → env2.get 23 = some (.bool v2) → J0 v2 = some r → K6 env2 σ2 := by
        intro v2 env2 σ2 F2 h6 h7 h8 hM
        subst eJ2
        refine hK6 _ _ <| SW.cond h8 (fun hb2 => ?_) (fun hb2 => ?_)
        · have hM := cT hb2 hM
          refine SW.seqR fun K7 hK7 => mv h6 <| it rfl rfl rfl <| sn rfl <| R.done (hK7 _ _ (SW.ret (Qb (Qt ?_))))
          obtain rfl := si hM
          exact ret_of (rc rfl rn) (.bool (p_1 == 1)) σ_0 (Le.refl _) F2.back ⟨rfl, rfl⟩
        · have hM := cF hb2 hM
          refine SW.seqR fun K8 hK8 => sr h7 rfl rfl <| sn rfl <| R.done (hK8 _ _ (SW.cond rfl (fun hb3 => ?_) (fun hb3 => ?_)))
          · have hM := cT hb3 hM
            refine SW.seqR fun K9 hK9 => mv h6 <| it rfl rfl rfl <| sn rfl <| R.done (hK9 _ _ (SW.ret (Qb (Qt ?_))))
            obtain rfl := si hM
            exact ret_of (rc rfl rn) (.bool (p_1 == 3)) σ_0 (Le.refl _) F2.back ⟨rfl, rfl⟩
          · have hM := cF hb3 hM
            refine SW.skip <| SW.seqR fun Ka hKa => sn rfl <| R.done (hKa _ _ (SW.ret ?_))
            obtain rfl := si hM
            exact ret_of (rc rfl rn) (.bool false) σ_0 (Le.refl _) F2.back ⟨rfl, rfl⟩
       clear eJ2
       refine SW.seqR fun Kb hKb => sr h4 rfl rfl <| sn rfl <| R.done (hKb _ _ (SW.cond rfl (fun hb4 => ?_) (fun hb4 => ?_)))
       · have hM := cT hb4 hM
         refine SW.skip ?_
         exact hJ2 (decide (p_0 = (⟨#[118, 97, 114]⟩ : ByteArray))) _ _ F1 h3 h4 rfl hM
       · have hM := cF hb4 hM
         refine SW.seqR fun Kc hKc => sr h4 rfl rfl <| sn rfl <| R.done (hKc _ _ (SW.cond rfl (fun hb5 => ?_) (fun hb5 => ?_)))
         · have hM := cT hb5 hM
           refine SW.skip ?_
           exact hJ2 (decide (p_0 = (⟨#[110, 111, 110, 118, 97, 114]⟩ : ByteArray))) _ _ F1 h3 h4 rfl hM
         · have hM := cF hb5 hM
           refine SW.seqR fun Kd hKd => sr h4 rfl rfl <| sn rfl <| R.done (hKd _ _ (SW.cond rfl (fun hb6 => ?_) (fun hb6 => ?_)))
           · have hM := cT hb6 hM
             refine SW.skip ?_
             exact hJ2 (decide (p_0 = (⟨#[97, 116, 111, 109]⟩ : ByteArray))) _ _ F1 h3 h4 rfl hM
           · have hM := cF hb6 hM
             refine SW.region <| sr h4 rfl rfl <| sn rfl <| R.done ?_
             exact hJ2 (decide (p_0 = (⟨#[105, 110, 116]⟩ : ByteArray))) _ _ F1 h3 h4 rfl hM
    clear eJ1
    refine SW.seqR fun Ke hKe => sr h1 rfl rfl <| sn rfl <| R.done (hKe _ _ (SW.cond rfl (fun hb7 => ?_) (fun hb7 => ?_)))
    · have hM := cT hb7 hM
      refine SW.skip ?_
      exact hJ1 (decide (p_0 = (⟨#[116, 114, 117, 101]⟩ : ByteArray))) _ _ F0 h0 h1 rfl hM
    · have hM := cF hb7 hM
      refine SW.region <| sr h1 rfl rfl <| sn rfl <| R.done ?_
      exact hJ1 (decide (p_0 = (⟨#[102, 97, 105, 108]⟩ : ByteArray))) _ _ F0 h0 h1 rfl hM
 clear eJ0
 refine SW.seqR fun Kf hKf => sr rfl rfl rfl <| sn rfl <| R.done (hKf _ _ (SW.cond rfl (fun hb8 => ?_) (fun hb8 => ?_)))
 · have hM := cT hb8 hM
   refine SW.skip ?_
   exact hJ0 (decide (p_0 = (⟨#[61]⟩ : ByteArray))) _ _ F_0 rfl rfl rfl hM
 · have hM := cF hb8 hM
   refine SW.seqR fun Kg hKg => sr rfl rfl rfl <| sn rfl <| R.done (hKg _ _ (SW.cond rfl (fun hb9 => ?_) (fun hb9 => ?_)))
   · have hM := cT hb9 hM
     refine SW.skip ?_
     exact hJ0 (decide (p_0 = (⟨#[92, 61]⟩ : ByteArray))) _ _ F_0 rfl rfl rfl hM
   · have hM := cF hb9 hM
     refine SW.seqR fun Kh hKh => sr rfl rfl rfl <| sn rfl <| R.done (hKh _ _ (SW.cond rfl (fun hba => ?_) (fun hba => ?_)))
     · have hM := cT hba hM
       refine SW.skip ?_
       exact hJ0 (decide (p_0 = (⟨#[61, 61]⟩ : ByteArray))) _ _ F_0 rfl rfl rfl hM
     · have hM := cF hba hM
       refine SW.seqR fun Ki hKi => sr rfl rfl rfl <| sn rfl <| R.done (hKi _ _ (SW.cond rfl (fun hbb => ?_) (fun hbb => ?_)))
       · have hM := cT hbb hM
         refine SW.skip ?_
         exact hJ0 (decide (p_0 = (⟨#[60]⟩ : ByteArray))) _ _ F_0 rfl rfl rfl hM
       · have hM := cF hbb hM
         refine SW.seqR fun Kj hKj => sr rfl rfl rfl <| sn rfl <| R.done (hKj _ _ (SW.cond rfl (fun hbc => ?_) (fun hbc => ?_)))
         · have hM := cT hbc hM
           refine SW.skip ?_
           exact hJ0 (decide (p_0 = (⟨#[62]⟩ : ByteArray))) _ _ F_0 rfl rfl rfl hM
         · have hM := cF hbc hM
           refine SW.seqR fun Kk hKk => sr rfl rfl rfl <| sn rfl <| R.done (hKk _ _ (SW.cond rfl (fun hbd => ?_) (fun hbd => ?_)))
           · have hM := cT hbd hM
             refine SW.skip ?_
             exact hJ0 (decide (p_0 = (⟨#[61, 60]⟩ : ByteArray))) _ _ F_0 rfl rfl rfl hM
           · have hM := cF hbd hM
             refine SW.seqR fun Kl hKl => sr rfl rfl rfl <| sn rfl <| R.done (hKl _ _ (SW.cond rfl (fun hbe => ?_) (fun hbe => ?_)))
             · have hM := cT hbe hM
               refine SW.skip ?_
               exact hJ0 (decide (p_0 = (⟨#[62, 61]⟩ : ByteArray))) _ _ F_0 rfl rfl rfl hM
             · have hM := cF hbe hM
               refine SW.seqR fun Km hKm => sr rfl rfl rfl <| sn rfl <| R.done (hKm _ _ (SW.cond rfl (fun hbf => ?_) (fun hbf => ?_)))
               · have hM := cT hbf hM
                 refine SW.skip ?_
                 exact hJ0 (decide (p_0 = (⟨#[61, 58, 61]⟩ : ByteArray))) _ _ F_0 rfl rfl rfl hM
               · have hM := cF hbf hM
                 refine SW.region <| sr rfl rfl rfl <| sn rfl <| R.done ?_
                 exact hJ0 (decide (p_0 = (⟨#[105, 115]⟩ : ByteArray))) _ _ F_0 rfl rfl rfl hM

def M_s_l4Plain (f : Nat) (p_0 : STerm) : Option Bool :=
 jn (fun (v0 : Bool) => (
 some (v0)
 )) fun J0 => (
 bif (p_0.kind == 3) then (
 Option.bind (M_s_l1Word f p_0.name) fun z0 =>
 bif z0 then (
 Option.bind (M_s_IsBuiltin f p_0.name (p_0.kids.length : Int)) fun z1 =>
 bif (!z1) then (
 Option.bind (M_s_l2Level f p_0.name) fun z2 =>
 J0 (z2 == 0)
 ) else (
 J0 false
 )
 ) else (
 J0 false
 )
 ) else (
 J0 false
 )
 )

theorem r_s_l4Plain (f : Nat) (p_0 : STerm) (r : Bool) (hM : M_s_l4Plain f p_0 = some r) (σ_0 : St) : AC Tryz.prog 72 [(.agg (cTerm p_0))] σ_0 (fun v s => v = (.bool r) ∧ s = σ_0) := by
 have F_0 := Fr.refl σ_0 []
 unfold M_s_l4Plain at hM
 refine AC.of_body Tryz.func72 rfl rfl (by rfl) (by simp [Tryz.f72]) <| SW.seqR fun K0 hK0 => R.op rfl (a_box (v := (.agg (cTerm p_0))) rfl rfl fun a0 σ0 n0 s0 hF0 => ?_)
 have lo0 := F_0.lo1 n0
 have F0 := F_0.andThen hF0 Lo.nil
 refine sn rfl <| R.done (hK0 _ _ (SW.seqK fun K1 hK1 => ?_))
 obtain ⟨J0, eJ0, hM⟩ := jn_elim hM
 have hJ0 : ∀ (v0 : Bool) (env0 : Env) (σ1 : St), Fr σ_0 σ1 [] → env0.get 2 = some (.bool v0) → σ1 a0 = some (.cells (cTerm p_0)) → J0 v0 = some r → K1 env0 σ1 := by
  intro v0 env0 σ1 F1 h0 s1 hM
  subst eJ0
  refine hK1 _ _ <| SW.ret ?_
  obtain rfl := si hM
  exact ret_of (rc h0 rn) (.bool v0) σ_0 (Le.refl _) F1.back ⟨rfl, rfl⟩
 clear eJ0
 refine SW.region <| fp ti25 rfl rfl rfl (by decide) <| ld ti3 rfl s0 rfl <| it rfl rfl rfl <| mv rfl ?_
 rcases bcase (p_0.kind == 3) with hb0 | hb0
 · have hM := cT hb0 hM
   refine R.go (p_0.kind == 3) rfl hb0 (a_fieldPtr ti25 rfl rfl rfl (by decide) (R.go (p_0.kind == 3) rfl hb0 (a_loadPtr ti9 rfl s0 rfl ?_)))
   obtain ⟨z0, hr0, hM⟩ := bd hM
   refine R.go (p_0.kind == 3) rfl hb0 (a_call (g := 114) rfl (oc rfl on) (AC.goP (r_s_l1Word f p_0.name z0 hr0 _) (LeL.refl _) (R.op rfl (a_pickT rfl hb0 rfl (mv rfl ?_)))))
   rcases bcase z0 with hb1 | hb1
   · have hM := cT hb1 hM
     refine R.go z0 rfl hb1 (a_fieldPtr ti25 rfl rfl rfl (by decide) (R.go z0 rfl hb1 (a_loadPtr ti9 rfl s0 rfl (R.go z0 rfl hb1 (a_fieldPtr ti25 rfl rfl rfl (by decide) (R.go z0 rfl hb1 (a_loadPtr ti23 rfl s0 rfl (R.go z0 rfl hb1 (a_lenImm ti23 rfl rfl (n := (p_0.kids.length : Int)) (by simp) ?_)))))))))
     obtain ⟨z1, hr1, hM⟩ := bd hM
     refine R.go z0 rfl hb1 (a_call (g := 115) rfl (oc rfl (oc rfl on)) (AC.goP (r_s_IsBuiltin f p_0.name (p_0.kids.length : Int) z1 hr1 _) (LeL.refl _) (R.go z0 rfl hb1 (a_not rfl (R.op rfl (a_pickT rfl hb1 rfl (mv rfl ?_)))))))
     rcases bcase (!z1) with hb2 | hb2
     · have hM := cT hb2 hM
       refine R.go (!z1) rfl hb2 (a_fieldPtr ti25 rfl rfl rfl (by decide) (R.go (!z1) rfl hb2 (a_loadPtr ti9 rfl s0 rfl ?_)))
       obtain ⟨z2, hr2, hM⟩ := bd hM
       refine R.go (!z1) rfl hb2 (a_call (g := 116) rfl (oc rfl on) (AC.goP (r_s_l2Level f p_0.name z2 hr2 _) (LeL.refl _) (R.go (!z1) rfl hb2 (a_int rfl rfl rfl (R.op rfl (a_pickT rfl hb2 rfl (sn rfl (R.done ?_))))))))
       exact hJ0 (z2 == 0) _ _ F0 rfl s0 hM
     · have hM := cF hb2 hM
       refine R.not (!z1) rfl hb2 <| R.not (!z1) rfl hb2 <| R.not (!z1) rfl hb2 <| R.not (!z1) rfl hb2 <| R.op rfl (a_pickF rfl hb2 rfl (sn rfl (R.done ?_)))
       exact hJ0 false _ _ F0 rfl s0 hM
   · have hM := cF hb1 hM
     refine R.not z0 rfl hb1 <| R.not z0 rfl hb1 <| R.not z0 rfl hb1 <| R.not z0 rfl hb1 <| R.not z0 rfl hb1 <| R.not z0 rfl hb1 <| R.not z0 rfl hb1 <| R.op rfl (a_pickF rfl hb1 rfl (mv rfl (R.not false rfl rfl (R.not false rfl rfl (R.not false rfl rfl (R.not false rfl rfl (R.op rfl (a_pickF rfl rfl rfl (sn rfl (R.done ?_))))))))))
     exact hJ0 false _ _ F0 rfl s0 hM
 · have hM := cF hb0 hM
   refine R.not (p_0.kind == 3) rfl hb0 <| R.not (p_0.kind == 3) rfl hb0 <| R.not (p_0.kind == 3) rfl hb0 <| R.op rfl (a_pickF rfl hb0 rfl (mv rfl (R.not false rfl rfl (R.not false rfl rfl (R.not false rfl rfl (R.not false rfl rfl (R.not false rfl rfl (R.not false rfl rfl (R.not false rfl rfl (R.op rfl (a_pickF rfl rfl rfl (mv rfl (R.not false rfl rfl (R.not false rfl rfl (R.not false rfl rfl ?_)))))))))))))))
   refine R.not false rfl rfl <| R.op rfl (a_pickF rfl rfl rfl (sn rfl (R.done ?_)))
   exact hJ0 false _ _ F0 rfl s0 hM

def M_s_l4Cut (f : Nat) (p_0 : STerm) : Option Bool :=
 jn (fun (v0 : Bool) => (
 some (v0)
 )) fun J0 => (
 bif (p_0.kind == 3) then (
 bif decide (p_0.name = (⟨#[33]⟩ : ByteArray)) then (
 J0 ((p_0.kids.length : Int) == 0)
 ) else (
 J0 false
 )
 ) else (
 J0 false
 )
 )

theorem r_s_l4Cut (f : Nat) (p_0 : STerm) (r : Bool) (hM : M_s_l4Cut f p_0 = some r) (σ_0 : St) : AC Tryz.prog 117 [(.agg (cTerm p_0))] σ_0 (fun v s => v = (.bool r) ∧ s = σ_0) := by
 have F_0 := Fr.refl σ_0 []
 unfold M_s_l4Cut at hM
 refine AC.of_body Tryz.func117 rfl rfl (by rfl) (by simp [Tryz.f117]) <| SW.seqR fun K0 hK0 => R.op rfl (a_box (v := (.agg (cTerm p_0))) rfl rfl fun a0 σ0 n0 s0 hF0 => ?_)
 have lo0 := F_0.lo1 n0
 have F0 := F_0.andThen hF0 Lo.nil
 refine sn rfl <| R.done (hK0 _ _ (SW.seqK fun K1 hK1 => ?_))
 obtain ⟨J0, eJ0, hM⟩ := jn_elim hM
 have hJ0 : ∀ (v0 : Bool) (env0 : Env) (σ1 : St), Fr σ_0 σ1 [] → env0.get 2 = some (.bool v0) → σ1 a0 = some (.cells (cTerm p_0)) → J0 v0 = some r → K1 env0 σ1 := by
  intro v0 env0 σ1 F1 h0 s1 hM
  subst eJ0
  refine hK1 _ _ <| SW.ret ?_
  obtain rfl := si hM
  exact ret_of (rc h0 rn) (.bool v0) σ_0 (Le.refl _) F1.back ⟨rfl, rfl⟩
 clear eJ0
 refine SW.region <| fp ti25 rfl rfl rfl (by decide) <| ld ti3 rfl s0 rfl <| it rfl rfl rfl <| mv rfl ?_
 rcases bcase (p_0.kind == 3) with hb0 | hb0
 · have hM := cT hb0 hM
   refine R.go (p_0.kind == 3) rfl hb0 (a_fieldPtr ti25 rfl rfl rfl (by decide) (R.go (p_0.kind == 3) rfl hb0 (a_loadPtr ti9 rfl s0 rfl (R.go (p_0.kind == 3) rfl hb0 (a_str rfl rfl rfl (R.op rfl (a_pickT rfl hb0 rfl (mv rfl ?_))))))))
   rcases bcase (decide (p_0.name = (⟨#[33]⟩ : ByteArray))) with hb1 | hb1
   · have hM := cT hb1 hM
     refine R.go (decide (p_0.name = (⟨#[33]⟩ : ByteArray))) rfl hb1 (a_fieldPtr ti25 rfl rfl rfl (by decide) (R.go (decide (p_0.name = (⟨#[33]⟩ : ByteArray))) rfl hb1 (a_loadPtr ti23 rfl s0 rfl (R.go (decide (p_0.name = (⟨#[33]⟩ : ByteArray))) rfl hb1 (a_lenImm ti23 rfl rfl (n := (p_0.kids.length : Int)) (by simp) (R.go (decide (p_0.name = (⟨#[33]⟩ : ByteArray))) rfl hb1 (a_int rfl rfl rfl (R.op rfl (a_pickT rfl hb1 rfl (sn rfl (R.done ?_)))))))))))
     exact hJ0 ((p_0.kids.length : Int) == 0) _ _ F0 rfl s0 hM
   · have hM := cF hb1 hM
     refine R.not (decide (p_0.name = (⟨#[33]⟩ : ByteArray))) rfl hb1 <| R.not (decide (p_0.name = (⟨#[33]⟩ : ByteArray))) rfl hb1 <| R.not (decide (p_0.name = (⟨#[33]⟩ : ByteArray))) rfl hb1 <| R.not (decide (p_0.name = (⟨#[33]⟩ : ByteArray))) rfl hb1 <| R.op rfl (a_pickF rfl hb1 rfl (sn rfl (R.done ?_)))
     exact hJ0 false _ _ F0 rfl s0 hM
 · have hM := cF hb0 hM
   refine R.not (p_0.kind == 3) rfl hb0 <| R.not (p_0.kind == 3) rfl hb0 <| R.not (p_0.kind == 3) rfl hb0 <| R.op rfl (a_pickF rfl hb0 rfl (mv rfl (R.not false rfl rfl (R.not false rfl rfl (R.not false rfl rfl (R.not false rfl rfl (R.op rfl (a_pickF rfl rfl rfl (sn rfl (R.done ?_))))))))))
   exact hJ0 false _ _ F0 rfl s0 hM

def M_s_l4Goal (f : Nat) (p_0 : STerm) : Option Bool :=
 jn (fun (v0 : Bool) => (
 some (v0)
 )) fun J0 => (
 Option.bind (M_s_l4Cut f p_0) fun z0 =>
 bif z0 then (
 J0 true
 ) else (
 Option.bind (M_s_l4Plain f p_0) fun z1 =>
 bif z1 then (
 J0 true
 ) else (
 bif (p_0.kind == 3) then (
 Option.bind (M_s_IsBuiltin f p_0.name (p_0.kids.length : Int)) fun z2 =>
 J0 z2
 ) else (
 J0 false
 )
 )
 )
 )

theorem r_s_l4Goal (f : Nat) (p_0 : STerm) (r : Bool) (hM : M_s_l4Goal f p_0 = some r) (σ_0 : St) : AC Tryz.prog 111 [(.agg (cTerm p_0))] σ_0 (fun v s => v = (.bool r) ∧ s = σ_0) := by
 have F_0 := Fr.refl σ_0 []
 unfold M_s_l4Goal at hM
 refine AC.of_body Tryz.func111 rfl rfl (by rfl) (by simp [Tryz.f111]) <| SW.seqR fun K0 hK0 => R.op rfl (a_box (v := (.agg (cTerm p_0))) rfl rfl fun a0 σ0 n0 s0 hF0 => ?_)
 have lo0 := F_0.lo1 n0
 have F0 := F_0.andThen hF0 Lo.nil
 refine sn rfl <| R.done (hK0 _ _ (SW.seqK fun K1 hK1 => ?_))
 obtain ⟨J0, eJ0, hM⟩ := jn_elim hM
 have hJ0 : ∀ (v0 : Bool) (env0 : Env) (σ1 : St), Fr σ_0 σ1 [] → env0.get 2 = some (.bool v0) → σ1 a0 = some (.cells (cTerm p_0)) → J0 v0 = some r → K1 env0 σ1 := by
  intro v0 env0 σ1 F1 h0 s1 hM
  subst eJ0
  refine hK1 _ _ <| SW.ret ?_
  obtain rfl := si hM
  exact ret_of (rc h0 rn) (.bool v0) σ_0 (Le.refl _) F1.back ⟨rfl, rfl⟩
 clear eJ0
 refine SW.region <| ld (v := (.agg (cTerm p_0))) ti25 rfl s0 rfl ?_
 obtain ⟨z0, hr0, hM⟩ := bd hM
 refine cp (r_s_l4Cut f p_0 z0 hr0 _) rfl (oc rfl on) (LeL.refl _) <| mv rfl ?_
 rcases bcase z0 with hb0 | hb0
 · have hM := cT hb0 hM
   refine R.notf z0 rfl hb0 <| R.notf z0 rfl hb0 <| R.op rfl (a_pickT rfl hb0 rfl (mv rfl (R.notf true rfl rfl (R.notf true rfl rfl (R.notf true rfl rfl (R.notf true rfl rfl (R.no rfl (R.no rfl (R.no rfl (R.no rfl (R.no rfl (R.no rfl (R.notf true rfl rfl (R.op rfl (a_pickT rfl rfl rfl (sn rfl ?_))))))))))))))))
   refine R.done ?_
   exact hJ0 true _ _ F0 rfl s0 hM
 · have hM := cF hb0 hM
   refine R.gof z0 rfl hb0 (a_loadPtr (v := (.agg (cTerm p_0))) ti25 rfl s0 rfl ?_)
   obtain ⟨z1, hr1, hM⟩ := bd hM
   refine R.gof z0 rfl hb0 (a_call (g := 72) rfl (oc rfl on) (AC.goP (r_s_l4Plain f p_0 z1 hr1 _) (LeL.refl _) (R.op rfl (a_pickF rfl hb0 rfl (mv rfl ?_)))))
   rcases bcase z1 with hb1 | hb1
   · have hM := cT hb1 hM
     refine R.notf z1 rfl hb1 <| R.notf z1 rfl hb1 <| R.notf z1 rfl hb1 <| R.notf z1 rfl hb1 <| R.no rfl <| R.no rfl <| R.no rfl <| R.no rfl <| R.no rfl <| R.no rfl <| R.notf z1 rfl hb1 <| R.op rfl (a_pickT rfl hb1 rfl (sn rfl (R.done ?_)))
     exact hJ0 true _ _ F0 rfl s0 hM
   · have hM := cF hb1 hM
     refine R.gof z1 rfl hb1 (a_fieldPtr ti25 rfl rfl rfl (by decide) (R.gof z1 rfl hb1 (a_loadPtr ti3 rfl s0 rfl (R.gof z1 rfl hb1 (a_int rfl rfl rfl (R.gof z1 rfl hb1 (a_move rfl ?_)))))))
     rcases bcase (p_0.kind == 3) with hb2 | hb2
     · have hM := cT hb2 hM
       refine R.go (p_0.kind == 3) rfl hb2 (a_fieldPtr ti25 rfl rfl rfl (by decide) (R.go (p_0.kind == 3) rfl hb2 (a_loadPtr ti9 rfl s0 rfl (R.go (p_0.kind == 3) rfl hb2 (a_fieldPtr ti25 rfl rfl rfl (by decide) (R.go (p_0.kind == 3) rfl hb2 (a_loadPtr ti23 rfl s0 rfl (R.go (p_0.kind == 3) rfl hb2 (a_lenImm ti23 rfl rfl (n := (p_0.kids.length : Int)) (by simp) ?_)))))))))
       obtain ⟨z2, hr2, hM⟩ := bd hM
       refine R.go (p_0.kind == 3) rfl hb2 (a_call (g := 115) rfl (oc rfl (oc rfl on)) (AC.goP (r_s_IsBuiltin f p_0.name (p_0.kids.length : Int) z2 hr2 _) (LeL.refl _) (R.gof z1 rfl hb1 (a_pickT rfl hb2 rfl (R.op rfl (a_pickF rfl hb1 rfl (sn rfl (R.done ?_))))))))
       exact hJ0 z2 _ _ F0 rfl s0 hM
     · have hM := cF hb2 hM
       refine R.not (p_0.kind == 3) rfl hb2 <| R.not (p_0.kind == 3) rfl hb2 <| R.not (p_0.kind == 3) rfl hb2 <| R.not (p_0.kind == 3) rfl hb2 <| R.not (p_0.kind == 3) rfl hb2 <| R.not (p_0.kind == 3) rfl hb2 <| R.gof z1 rfl hb1 (a_pickF rfl hb2 rfl (R.op rfl (a_pickF rfl hb1 rfl (sn rfl (R.done ?_)))))
       exact hJ0 false _ _ F0 rfl s0 hM

def M_s_GoalValid (f : Nat) (p_0 : STerm) : Option Bool :=
 jn (fun (v0 : Bool) => (
 some (v0)
 )) fun J0 => (
 Option.bind (M_s_TermValid f p_0) fun z0 =>
 bif z0 then (
 Option.bind (M_s_l4Goal f p_0) fun z1 =>
 J0 z1
 ) else (
 J0 false
 )
 )

theorem r_s_GoalValid (f : Nat) (p_0 : STerm) (r : Bool) (hM : M_s_GoalValid f p_0 = some r) (σ_0 : St) : AC Tryz.prog 70 [(.agg (cTerm p_0))] σ_0 (fun v s => v = (.bool r) ∧ s = σ_0) := by
 have F_0 := Fr.refl σ_0 []
 unfold M_s_GoalValid at hM
 refine AC.of_body Tryz.func70 rfl rfl (by rfl) (by simp [Tryz.f70]) <| SW.seqR fun K0 hK0 => R.op rfl (a_box (v := (.agg (cTerm p_0))) rfl rfl fun a0 σ0 n0 s0 hF0 => ?_)
 have lo0 := F_0.lo1 n0
 have F0 := F_0.andThen hF0 Lo.nil
 refine sn rfl <| R.done (hK0 _ _ (SW.seqK fun K1 hK1 => ?_))
 obtain ⟨J0, eJ0, hM⟩ := jn_elim hM
 have hJ0 : ∀ (v0 : Bool) (env0 : Env) (σ1 : St), Fr σ_0 σ1 [] → env0.get 2 = some (.bool v0) → σ1 a0 = some (.cells (cTerm p_0)) → J0 v0 = some r → K1 env0 σ1 := by
  intro v0 env0 σ1 F1 h0 s1 hM
  subst eJ0
  refine hK1 _ _ <| SW.ret ?_
  obtain rfl := si hM
  exact ret_of (rc h0 rn) (.bool v0) σ_0 (Le.refl _) F1.back ⟨rfl, rfl⟩
 clear eJ0
 refine SW.region <| ld (v := (.agg (cTerm p_0))) ti25 rfl s0 rfl ?_
 obtain ⟨z0, hr0, hM⟩ := bd hM
 refine cp (r_s_TermValid f p_0 z0 hr0 _) rfl (oc rfl on) (LeL.refl _) <| mv rfl ?_
 rcases bcase z0 with hb0 | hb0
 · have hM := cT hb0 hM
   refine R.go z0 rfl hb0 (a_loadPtr (v := (.agg (cTerm p_0))) ti25 rfl s0 rfl ?_)
   obtain ⟨z1, hr1, hM⟩ := bd hM
   refine R.go z0 rfl hb0 (a_call (g := 111) rfl (oc rfl on) (AC.goP (r_s_l4Goal f p_0 z1 hr1 _) (LeL.refl _) (R.op rfl (a_pickT rfl hb0 rfl (sn rfl (R.done ?_))))))
   exact hJ0 z1 _ _ F0 rfl s0 hM
 · have hM := cF hb0 hM
   refine R.not z0 rfl hb0 <| R.not z0 rfl hb0 <| R.op rfl (a_pickF rfl hb0 rfl (sn rfl (R.done ?_)))
   exact hJ0 false _ _ F0 rfl s0 hM

def L_s_ClauseValid_1 (f : Nat) (p_0 : SClause) (J0 : Unit → Option Bool) : Nat → Int → Option Bool
 | 0, _ => none
 | n + 1, v0 =>
 jn (fun (v1 : Bool) => (
 bif v1 then (
 bif decide (0 ≤ v0) then
 Option.bind (p_0.body[(v0 : Int).toNat]?) fun x0 =>
 Option.bind (M_s_GoalValid f x0) fun z0 =>
 bif (!z0) then (
 some (false)
 ) else (
 L_s_ClauseValid_1 f p_0 J0 n (IntKind.wrap .i64 (v0 + 1))
 )
 else none
 ) else (
 J0 ()
 )
 )) fun J1 => (
 bif decide (v0 < (p_0.body.length : Int)) then (
 J1 (decide (v0 ≤ 6))
 ) else (
 J1 false
 )
 )

def M_s_ClauseValid (f : Nat) (p_0 : SClause) : Option Bool :=
 jn (fun (_ : Unit) => (
 jn (fun (v2 : Bool) => (
 some (v2)
 )) fun J2 => (
 bif decide ((p_0.body.length : Int) ≤ 6) then (
 Option.bind (M_s_TermValid f p_0.head) fun z1 =>
 bif z1 then (
 Option.bind (M_s_l4Plain f p_0.head) fun z2 =>
 J2 z2
 ) else (
 J2 false
 )
 ) else (
 J2 false
 )
 )
 )) fun J0 => (
 L_s_ClauseValid_1 f p_0 J0 f 0
 )

theorem r_s_ClauseValid (f : Nat) (p_0 : SClause) (r : Bool) (hM : M_s_ClauseValid f p_0 = some r) (σ_0 : St) : AC Tryz.prog 29 [(.agg (cClause p_0))] σ_0 (fun v s => v = (.bool r) ∧ s = σ_0) := by
 have F_0 := Fr.refl σ_0 []
 unfold M_s_ClauseValid at hM
 refine AC.of_body Tryz.func29 rfl rfl (by rfl) (by simp [Tryz.f29]) <| SW.seqR fun K0 hK0 => R.op rfl (a_box (v := (.agg (cClause p_0))) rfl rfl fun a0 σ0 n0 s0 hF0 => ?_)
 have lo0 := F_0.lo1 n0
 have F0 := F_0.andThen hF0 Lo.nil
 refine sn rfl <| R.done (hK0 _ _ (SW.seqK fun K1 hK1 => ?_))
 obtain ⟨J0, eJ0, hM⟩ := jn_elim hM
 have hJ0 : ∀  (env0 : Env) (σ1 : St), Fr σ_0 σ1 [] → env0.get 1 = some (.ptr a0 0) → σ1 a0 = some (.cells (cClause p_0)) → J0 () = some r → K1 env0 σ1 := by
  intro env0 σ1 F1 h0 s1 hM
  subst eJ0
  refine hK1 _ _ <| SW.seqK fun K2 hK2 => ?_
  obtain ⟨J2, eJ1, hM⟩ := jn_elim hM
  have hJ1 : ∀ (v2 : Bool) (env1 : Env) (σ2 : St), Fr σ_0 σ2 [] → env1.get 2 = some (.bool v2) → σ2 a0 = some (.cells (cClause p_0)) → J2 v2 = some r → K2 env1 σ2 := by
   intro v2 env1 σ2 F2 h1 s2 hM
   subst eJ1
   refine hK2 _ _ <| SW.ret ?_
   obtain rfl := si hM
   exact ret_of (rc h1 rn) (.bool v2) σ_0 (Le.refl _) F2.back ⟨rfl, rfl⟩
  clear eJ1
  refine SW.region <| fp ti27 rfl h0 rfl (by decide) <| ld ti23 rfl s1 rfl <| R.op rfl (a_lenImm ti23 rfl rfl (n := (p_0.body.length : Int)) (by simp) (it rfl rfl rfl (mv rfl ?_)))
  rcases bcase (decide ((p_0.body.length : Int) ≤ 6)) with hb0 | hb0
  · have hM := cT hb0 hM
    refine R.go (decide ((p_0.body.length : Int) ≤ 6)) rfl hb0 (a_fieldPtr ti27 rfl h0 rfl (by decide) (R.go (decide ((p_0.body.length : Int) ≤ 6)) rfl hb0 (a_loadPtr (v := (.agg (cTerm p_0.head))) ti25 rfl s1 rfl ?_)))
    obtain ⟨z1, hr0, hM⟩ := bd hM
    refine R.go (decide ((p_0.body.length : Int) ≤ 6)) rfl hb0 (a_call (g := 71) rfl (oc rfl on) (AC.goP (r_s_TermValid f p_0.head z1 hr0 _) (LeL.refl _) (R.op rfl (a_pickT rfl hb0 rfl (mv rfl ?_)))))
    rcases bcase z1 with hb1 | hb1
    · have hM := cT hb1 hM
      refine R.go z1 rfl hb1 (a_fieldPtr ti27 rfl h0 rfl (by decide) (R.go z1 rfl hb1 (a_loadPtr (v := (.agg (cTerm p_0.head))) ti25 rfl s1 rfl ?_)))
      obtain ⟨z2, hr1, hM⟩ := bd hM
      refine R.go z1 rfl hb1 (a_call (g := 72) rfl (oc rfl on) (AC.goP (r_s_l4Plain f p_0.head z2 hr1 _) (LeL.refl _) (R.op rfl (a_pickT rfl hb1 rfl (sn rfl (R.done ?_))))))
      exact hJ1 z2 _ _ F1 rfl s1 hM
    · have hM := cF hb1 hM
      refine R.not z1 rfl hb1 <| R.not z1 rfl hb1 <| R.not z1 rfl hb1 <| R.op rfl (a_pickF rfl hb1 rfl (sn rfl (R.done ?_)))
      exact hJ1 false _ _ F1 rfl s1 hM
  · have hM := cF hb0 hM
    refine R.not (decide ((p_0.body.length : Int) ≤ 6)) rfl hb0 <| R.not (decide ((p_0.body.length : Int) ≤ 6)) rfl hb0 <| R.not (decide ((p_0.body.length : Int) ≤ 6)) rfl hb0 <| R.op rfl (a_pickF rfl hb0 rfl (mv rfl (R.not false rfl rfl (R.not false rfl rfl (R.not false rfl rfl (R.op rfl (a_pickF rfl rfl rfl (sn rfl (R.done ?_)))))))))
    exact hJ1 false _ _ F1 rfl s1 hM
 clear eJ0
 refine SW.seqR fun K3 hK3 => sn rfl <| R.done (hK3 _ _ (SW.block (SW.loop (LW.ind (I := fun n1 env2 σ3 => ∃ (v0 : Int), Fr σ_0 σ3 [] ∧ env2.get 1 = some (.ptr a0 0) ∧ env2.get 3 = some (I v0) ∧ σ3 a0 = some (.cells (cClause p_0)) ∧ L_s_ClauseValid_1 f p_0 J0 n1 v0 = some r) ?_ f _ _ ⟨0, F0, rfl, rfl, s0, hM⟩))))
 rintro n1 env2 σ3 ⟨v0, F3, h2, h3, s3, hM⟩
 cases n1 with
 | zero => (rw [L_s_ClauseValid_1] at hM; cases hM)
 | succ n1 =>
  rw [L_s_ClauseValid_1] at hM
  refine SW.seq <| SW.seqK fun K4 hK4 => ?_
  obtain ⟨J1, eJ2, hM⟩ := jn_elim hM
  have hJ2 : ∀ (v1 : Bool) (env3 : Env) (σ4 : St), Fr σ_0 σ4 [] → env3.get 1 = some (.ptr a0 0) → env3.get 3 = some (I v0) → env3.get 12 = some (.bool v1) → σ4 a0 = some (.cells (cClause p_0)) → J1 v1 = some r → K4 env3 σ4 := by
   intro v1 env3 σ4 F4 h4 h5 h6 s4 hM
   subst eJ2
   refine hK4 _ _ <| SW.cond h6 (fun hb2 => ?_) (fun hb2 => ?_)
   · have hM := cT hb2 hM
     refine SW.skip <| SW.seq <| SW.block <| SW.seqR fun K5 hK5 => fp ti27 rfl h4 rfl (by decide) <| ld ti23 rfl s4 rfl <| mv h5 ?_
     obtain ⟨hg0, hM⟩ := gd hM
     obtain ⟨x0, hx0, hM⟩ := bd hM
     refine R.op rfl (a_idxImm (f := eTerm) (xs := p_0.body) (n := v0) (e := x0) (v := (.agg (cTerm x0))) ti23 rfl ti25 rfl rfl rfl (od hg0) hx0 (eTerm_eq x0) (li (v := (.agg (cTerm x0))) ti25 rfl rfl ?_))
     obtain ⟨z0, hr2, hM⟩ := bd hM
     refine cp (r_s_GoalValid f x0 z0 hr2 _) rfl (oc rfl on) (LeL.refl _) <| no rfl <| R.done (hK5 _ _ (SW.cond rfl (fun hb3 => ?_) (fun hb3 => ?_)))
     · have hM := cT hb3 hM
       refine SW.seqR fun K6 hK6 => sn rfl <| R.done (hK6 _ _ (SW.ret (Qb (Qt (Qt (Qb (Qt ?_)))))))
       obtain rfl := si hM
       exact ret_of (rc rfl rn) (.bool false) σ_0 (Le.refl _) F4.back ⟨rfl, rfl⟩
     · have hM := cF hb3 hM
       refine SW.skip <| SW.region <| mv h5 <| it rfl rfl rfl <| sn rfl <| R.done ?_
       exact ⟨n1, Nat.lt_succ_self _, (IntKind.wrap .i64 (v0 + 1)), F4, h4, rfl, s4, hM⟩
   · have hM := cF hb2 hM
     refine SW.exit <| Qte <| Qte <| Qbx ?_
     exact hJ0  _ _ F4 h4 s4 hM
  clear eJ2
  refine SW.region <| mv h3 <| fp ti27 rfl h2 rfl (by decide) <| ld ti23 rfl s3 rfl <| R.op rfl (a_lenImm ti23 rfl rfl (n := (p_0.body.length : Int)) (by simp) (it rfl rfl rfl (mv rfl ?_)))
  rcases bcase (decide (v0 < (p_0.body.length : Int))) with hb4 | hb4
  · have hM := cT hb4 hM
    refine R.go (decide (v0 < (p_0.body.length : Int))) rfl hb4 (a_move h3 (R.go (decide (v0 < (p_0.body.length : Int))) rfl hb4 (a_int rfl rfl rfl (R.op rfl (a_pickT rfl hb4 rfl (R.done ?_))))))
    exact hJ2 (decide (v0 ≤ 6)) _ _ F3 h2 h3 rfl s3 hM
  · have hM := cF hb4 hM
    refine R.not (decide (v0 < (p_0.body.length : Int))) rfl hb4 <| R.not (decide (v0 < (p_0.body.length : Int))) rfl hb4 <| R.op rfl (a_pickF rfl hb4 rfl (R.done ?_))
    exact hJ2 false _ _ F3 h2 h3 rfl s3 hM

def M_s_l1Pair (f : Nat) (p_0 : STerm) : Option Bool :=
 jn (fun (v0 : Bool) => (
 some (v0)
 )) fun J0 => (
 bif (p_0.kind == 3) then (
 bif decide (p_0.name = (⟨#[46]⟩ : ByteArray)) then (
 J0 ((p_0.kids.length : Int) == 2)
 ) else (
 J0 false
 )
 ) else (
 J0 false
 )
 )

theorem r_s_l1Pair (f : Nat) (p_0 : STerm) (r : Bool) (hM : M_s_l1Pair f p_0 = some r) (σ_0 : St) : AC Tryz.prog 177 [(.agg (cTerm p_0))] σ_0 (fun v s => v = (.bool r) ∧ s = σ_0) := by
 have F_0 := Fr.refl σ_0 []
 unfold M_s_l1Pair at hM
 refine AC.of_body Tryz.func177 rfl rfl (by rfl) (by simp [Tryz.f177]) <| SW.seqR fun K0 hK0 => R.op rfl (a_box (v := (.agg (cTerm p_0))) rfl rfl fun a0 σ0 n0 s0 hF0 => ?_)
 have lo0 := F_0.lo1 n0
 have F0 := F_0.andThen hF0 Lo.nil
 refine sn rfl <| R.done (hK0 _ _ (SW.seqK fun K1 hK1 => ?_))
 obtain ⟨J0, eJ0, hM⟩ := jn_elim hM
 have hJ0 : ∀ (v0 : Bool) (env0 : Env) (σ1 : St), Fr σ_0 σ1 [] → env0.get 2 = some (.bool v0) → σ1 a0 = some (.cells (cTerm p_0)) → J0 v0 = some r → K1 env0 σ1 := by
  intro v0 env0 σ1 F1 h0 s1 hM
  subst eJ0
  refine hK1 _ _ <| SW.ret ?_
  obtain rfl := si hM
  exact ret_of (rc h0 rn) (.bool v0) σ_0 (Le.refl _) F1.back ⟨rfl, rfl⟩
 clear eJ0
 refine SW.region <| fp ti25 rfl rfl rfl (by decide) <| ld ti3 rfl s0 rfl <| it rfl rfl rfl <| mv rfl ?_
 rcases bcase (p_0.kind == 3) with hb0 | hb0
 · have hM := cT hb0 hM
   refine R.go (p_0.kind == 3) rfl hb0 (a_fieldPtr ti25 rfl rfl rfl (by decide) (R.go (p_0.kind == 3) rfl hb0 (a_loadPtr ti9 rfl s0 rfl (R.go (p_0.kind == 3) rfl hb0 (a_str rfl rfl rfl (R.op rfl (a_pickT rfl hb0 rfl (mv rfl ?_))))))))
   rcases bcase (decide (p_0.name = (⟨#[46]⟩ : ByteArray))) with hb1 | hb1
   · have hM := cT hb1 hM
     refine R.go (decide (p_0.name = (⟨#[46]⟩ : ByteArray))) rfl hb1 (a_fieldPtr ti25 rfl rfl rfl (by decide) (R.go (decide (p_0.name = (⟨#[46]⟩ : ByteArray))) rfl hb1 (a_loadPtr ti23 rfl s0 rfl (R.go (decide (p_0.name = (⟨#[46]⟩ : ByteArray))) rfl hb1 (a_lenImm ti23 rfl rfl (n := (p_0.kids.length : Int)) (by simp) (R.go (decide (p_0.name = (⟨#[46]⟩ : ByteArray))) rfl hb1 (a_int rfl rfl rfl (R.op rfl (a_pickT rfl hb1 rfl (sn rfl (R.done ?_)))))))))))
     exact hJ0 ((p_0.kids.length : Int) == 2) _ _ F0 rfl s0 hM
   · have hM := cF hb1 hM
     refine R.not (decide (p_0.name = (⟨#[46]⟩ : ByteArray))) rfl hb1 <| R.not (decide (p_0.name = (⟨#[46]⟩ : ByteArray))) rfl hb1 <| R.not (decide (p_0.name = (⟨#[46]⟩ : ByteArray))) rfl hb1 <| R.not (decide (p_0.name = (⟨#[46]⟩ : ByteArray))) rfl hb1 <| R.op rfl (a_pickF rfl hb1 rfl (sn rfl (R.done ?_)))
     exact hJ0 false _ _ F0 rfl s0 hM
 · have hM := cF hb0 hM
   refine R.not (p_0.kind == 3) rfl hb0 <| R.not (p_0.kind == 3) rfl hb0 <| R.not (p_0.kind == 3) rfl hb0 <| R.op rfl (a_pickF rfl hb0 rfl (mv rfl (R.not false rfl rfl (R.not false rfl rfl (R.not false rfl rfl (R.not false rfl rfl (R.op rfl (a_pickF rfl rfl rfl (sn rfl (R.done ?_))))))))))
   exact hJ0 false _ _ F0 rfl s0 hM

def M_s_l1Nil (f : Nat) (p_0 : STerm) : Option Bool :=
 jn (fun (v0 : Bool) => (
 some (v0)
 )) fun J0 => (
 bif (p_0.kind == 3) then (
 bif decide (p_0.name = (⟨#[91, 93]⟩ : ByteArray)) then (
 J0 ((p_0.kids.length : Int) == 0)
 ) else (
 J0 false
 )
 ) else (
 J0 false
 )
 )

theorem r_s_l1Nil (f : Nat) (p_0 : STerm) (r : Bool) (hM : M_s_l1Nil f p_0 = some r) (σ_0 : St) : AC Tryz.prog 185 [(.agg (cTerm p_0))] σ_0 (fun v s => v = (.bool r) ∧ s = σ_0) := by
 have F_0 := Fr.refl σ_0 []
 unfold M_s_l1Nil at hM
 refine AC.of_body Tryz.func185 rfl rfl (by rfl) (by simp [Tryz.f185]) <| SW.seqR fun K0 hK0 => R.op rfl (a_box (v := (.agg (cTerm p_0))) rfl rfl fun a0 σ0 n0 s0 hF0 => ?_)
 have lo0 := F_0.lo1 n0
 have F0 := F_0.andThen hF0 Lo.nil
 refine sn rfl <| R.done (hK0 _ _ (SW.seqK fun K1 hK1 => ?_))
 obtain ⟨J0, eJ0, hM⟩ := jn_elim hM
 have hJ0 : ∀ (v0 : Bool) (env0 : Env) (σ1 : St), Fr σ_0 σ1 [] → env0.get 2 = some (.bool v0) → σ1 a0 = some (.cells (cTerm p_0)) → J0 v0 = some r → K1 env0 σ1 := by
  intro v0 env0 σ1 F1 h0 s1 hM
  subst eJ0
  refine hK1 _ _ <| SW.ret ?_
  obtain rfl := si hM
  exact ret_of (rc h0 rn) (.bool v0) σ_0 (Le.refl _) F1.back ⟨rfl, rfl⟩
 clear eJ0
 refine SW.region <| fp ti25 rfl rfl rfl (by decide) <| ld ti3 rfl s0 rfl <| it rfl rfl rfl <| mv rfl ?_
 rcases bcase (p_0.kind == 3) with hb0 | hb0
 · have hM := cT hb0 hM
   refine R.go (p_0.kind == 3) rfl hb0 (a_fieldPtr ti25 rfl rfl rfl (by decide) (R.go (p_0.kind == 3) rfl hb0 (a_loadPtr ti9 rfl s0 rfl (R.go (p_0.kind == 3) rfl hb0 (a_str rfl rfl rfl (R.op rfl (a_pickT rfl hb0 rfl (mv rfl ?_))))))))
   rcases bcase (decide (p_0.name = (⟨#[91, 93]⟩ : ByteArray))) with hb1 | hb1
   · have hM := cT hb1 hM
     refine R.go (decide (p_0.name = (⟨#[91, 93]⟩ : ByteArray))) rfl hb1 (a_fieldPtr ti25 rfl rfl rfl (by decide) (R.go (decide (p_0.name = (⟨#[91, 93]⟩ : ByteArray))) rfl hb1 (a_loadPtr ti23 rfl s0 rfl (R.go (decide (p_0.name = (⟨#[91, 93]⟩ : ByteArray))) rfl hb1 (a_lenImm ti23 rfl rfl (n := (p_0.kids.length : Int)) (by simp) (R.go (decide (p_0.name = (⟨#[91, 93]⟩ : ByteArray))) rfl hb1 (a_int rfl rfl rfl (R.op rfl (a_pickT rfl hb1 rfl (sn rfl (R.done ?_)))))))))))
     exact hJ0 ((p_0.kids.length : Int) == 0) _ _ F0 rfl s0 hM
   · have hM := cF hb1 hM
     refine R.not (decide (p_0.name = (⟨#[91, 93]⟩ : ByteArray))) rfl hb1 <| R.not (decide (p_0.name = (⟨#[91, 93]⟩ : ByteArray))) rfl hb1 <| R.not (decide (p_0.name = (⟨#[91, 93]⟩ : ByteArray))) rfl hb1 <| R.not (decide (p_0.name = (⟨#[91, 93]⟩ : ByteArray))) rfl hb1 <| R.op rfl (a_pickF rfl hb1 rfl (sn rfl (R.done ?_)))
     exact hJ0 false _ _ F0 rfl s0 hM
 · have hM := cF hb0 hM
   refine R.not (p_0.kind == 3) rfl hb0 <| R.not (p_0.kind == 3) rfl hb0 <| R.not (p_0.kind == 3) rfl hb0 <| R.op rfl (a_pickF rfl hb0 rfl (mv rfl (R.not false rfl rfl (R.not false rfl rfl (R.not false rfl rfl (R.not false rfl rfl (R.op rfl (a_pickF rfl rfl rfl (sn rfl (R.done ?_))))))))))
   exact hJ0 false _ _ F0 rfl s0 hM

end Go.Am
