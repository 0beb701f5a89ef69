/-
  Walks of functions, printed by wip/py/gen2.py.
-/
import Derived.Test.YtbmlendfheakeaaGreatW4
namespace Go.Am
open Go.Proofs
set_option maxRecDepth 100000
set_option linter.unusedVariables false

def B_i_scan (f : Nat) (c_i_scan : STerm → Int → Int → Option (Bool × Int)) (c_i_scan_1 : STerm → Int → Int → Option (Bool × Int)) (c_ContainsFunc_Term__i_scan_1 : (List STerm) → Int → Int → Option (Bool × Int)) (c_IndexFunc_Term__i_scan_1 : (List STerm) → Int → Int → Option (Int × Int)) (p_0 : STerm) (p_1 : Int) (o0c0_0 : Int) : Option (Bool × Int) :=
 jn (fun (v0 : Bool) => (
 bif v0 then (
 some (false, (IntKind.wrap .i64 (o0c0_0 + 1)))
 ) else (
 bif (p_0.kind == 1) then (
 jn (fun (v1 : Bool) => (
 some (v1, (IntKind.wrap .i64 (o0c0_0 + 1)))
 )) fun J0 => (
 Option.bind (M_i_within f p_0.n 0 25) fun z0 =>
 bif z0 then (
 bif decide (p_0.name = (⟨#[]⟩ : ByteArray)) then (
 J0 ((p_0.kids.length : Int) == 0)
 ) else (
 J0 false
 )
 ) else (
 J0 false
 )
 )
 ) else (
 bif (p_0.kind == 2) then (
 jn (fun (v2 : Bool) => (
 some (v2, (IntKind.wrap .i64 (o0c0_0 + 1)))
 )) fun J1 => (
 Option.bind (M_i_within f p_0.n (-999) 999) fun z1 =>
 bif z1 then (
 bif decide (p_0.name = (⟨#[]⟩ : ByteArray)) then (
 J1 ((p_0.kids.length : Int) == 0)
 ) else (
 J1 false
 )
 ) else (
 J1 false
 )
 )
 ) else (
 bif (p_0.kind == 3) then (
 jn (fun (v3 : Bool) => (
 bif v3 then (
 some (false, (IntKind.wrap .i64 (o0c0_0 + 1)))
 ) else (
 Option.bind (c_ContainsFunc_Term__i_scan_1 p_0.kids p_1 (IntKind.wrap .i64 (o0c0_0 + 1))) fun z2 =>
 some ((!z2.1), z2.2)
 )
 )) fun J2 => (
 bif (!(p_0.n == 0)) then (
 J2 true
 ) else (
 Option.bind (M_i_NameValid f p_0.name) fun z3 =>
 bif (!z3) then (
 J2 true
 ) else (
 J2 (decide (4 < (p_0.kids.length : Int)))
 )
 )
 )
 ) else (
 some (false, (IntKind.wrap .i64 (o0c0_0 + 1)))
 )
 )
 )
 )
 )) fun J3 => (
 bif decide (120 < (IntKind.wrap .i64 (o0c0_0 + 1))) then (
 J3 true
 ) else (
 J3 (decide (30 < p_1))
 )
 )

def B_ContainsFunc_Term__i_scan_1 (f : Nat) (c_i_scan : STerm → Int → Int → Option (Bool × Int)) (c_i_scan_1 : STerm → Int → Int → Option (Bool × Int)) (c_ContainsFunc_Term__i_scan_1 : (List STerm) → Int → Int → Option (Bool × Int)) (c_IndexFunc_Term__i_scan_1 : (List STerm) → Int → Int → Option (Int × Int)) (p_0 : (List STerm)) (o0c0_0 : Int) (o2c0_0 : Int) : Option (Bool × Int) :=
 Option.bind (c_IndexFunc_Term__i_scan_1 p_0 o0c0_0 o2c0_0) fun z4 =>
 some (decide (0 ≤ z4.1), z4.2)

def L_IndexFunc_Term__i_scan_1_1 (c_i_scan_1 : STerm → Int → Int → Option (Bool × Int)) (p_0 : (List STerm)) (o0c0_0 : Int) (J4 : Int → Option (Int × Int)) : Nat → Int → Int → Option (Int × Int)
 | 0, _, _ => none
 | n + 1, v4, v5 =>
 bif decide (v4 < (p_0.length : Int)) then (
 bif decide (0 ≤ v4) then
 Option.bind (p_0[(v4 : Int).toNat]?) fun x0 =>
 Option.bind (c_i_scan_1 x0 o0c0_0 v5) fun z5 =>
 bif z5.1 then (
 some (v4, z5.2)
 ) else (
 L_IndexFunc_Term__i_scan_1_1 c_i_scan_1 p_0 o0c0_0 J4 n (IntKind.wrap .i64 (v4 + 1)) z5.2
 )
 else none
 ) else (
 J4 v5
 )

def B_IndexFunc_Term__i_scan_1 (f : Nat) (c_i_scan : STerm → Int → Int → Option (Bool × Int)) (c_i_scan_1 : STerm → Int → Int → Option (Bool × Int)) (c_ContainsFunc_Term__i_scan_1 : (List STerm) → Int → Int → Option (Bool × Int)) (c_IndexFunc_Term__i_scan_1 : (List STerm) → Int → Int → Option (Int × Int)) (p_0 : (List STerm)) (o0c0_0 : Int) (o2c0_0 : Int) : Option (Int × Int) :=
 jn (fun (v6 : Int) => (
 some ((-1), v6)
 )) fun J4 => (
 L_IndexFunc_Term__i_scan_1_1 c_i_scan_1 p_0 o0c0_0 J4 f 0 o2c0_0
 )

def B_i_scan_1 (f : Nat) (c_i_scan : STerm → Int → Int → Option (Bool × Int)) (c_i_scan_1 : STerm → Int → Int → Option (Bool × Int)) (c_ContainsFunc_Term__i_scan_1 : (List STerm) → Int → Int → Option (Bool × Int)) (c_IndexFunc_Term__i_scan_1 : (List STerm) → Int → Int → Option (Int × Int)) (p_0 : STerm) (o0c0_0 : Int) (o2c0_0 : Int) : Option (Bool × Int) :=
 Option.bind (c_i_scan p_0 (IntKind.wrap .i64 (o0c0_0 + 1)) o2c0_0) fun z6 =>
 some ((!z6.1), z6.2)

mutual
def M_i_scan : Nat → STerm → Int → Int → Option (Bool × Int)
 | 0, _, _, _ => none
 | f + 1, p_0, p_1, o0c0_0 => B_i_scan f (M_i_scan f) (M_i_scan_1 f) (M_ContainsFunc_Term__i_scan_1 f) (M_IndexFunc_Term__i_scan_1 f) p_0 p_1 o0c0_0
def M_ContainsFunc_Term__i_scan_1 : Nat → (List STerm) → Int → Int → Option (Bool × Int)
 | 0, _, _, _ => none
 | f + 1, p_0, o0c0_0, o2c0_0 => B_ContainsFunc_Term__i_scan_1 f (M_i_scan f) (M_i_scan_1 f) (M_ContainsFunc_Term__i_scan_1 f) (M_IndexFunc_Term__i_scan_1 f) p_0 o0c0_0 o2c0_0
def M_IndexFunc_Term__i_scan_1 : Nat → (List STerm) → Int → Int → Option (Int × Int)
 | 0, _, _, _ => none
 | f + 1, p_0, o0c0_0, o2c0_0 => B_IndexFunc_Term__i_scan_1 f (M_i_scan f) (M_i_scan_1 f) (M_ContainsFunc_Term__i_scan_1 f) (M_IndexFunc_Term__i_scan_1 f) p_0 o0c0_0 o2c0_0
def M_i_scan_1 : Nat → STerm → Int → Int → Option (Bool × Int)
 | 0, _, _, _ => none
 | f + 1, p_0, o0c0_0, o2c0_0 => B_i_scan_1 f (M_i_scan f) (M_i_scan_1 f) (M_ContainsFunc_Term__i_scan_1 f) (M_IndexFunc_Term__i_scan_1 f) p_0 o0c0_0 o2c0_0
end

def Q_i_scan (c : STerm → Int → Int → Option (Bool × Int)) : Prop := ∀ (p_0 : STerm) (p_1 : Int) (a_0 : Nat) (o0c0_0 : Int) (r : Bool × Int), c p_0 p_1 o0c0_0 = some r → ∀ (σ_0 : St), (s_0 : σ_0 a_0 = some (.cells [(I o0c0_0)])) → AC Tryz.prog 100 [(.agg (cTerm p_0)), (I p_1), (.ptr a_0 0)] σ_0 (fun v s => v = (.bool r.1) ∧ s a_0 = some (.cells [(I r.2)]) ∧ Fr σ_0 s [a_0])

def Q_ContainsFunc_Term__i_scan_1 (c : (List STerm) → Int → Int → Option (Bool × Int)) : Prop := ∀ (p_0 : (List STerm)) (tk_0 : Tk) (a_0 : Nat) (o0c0_0 : Int) (a_1 : Nat) (a_2 : Nat) (o2c0_0 : Int) (r : Bool × Int), c p_0 o0c0_0 o2c0_0 = some r → ∀ (σ_0 : St), (s_0 : σ_0 a_0 = some (.cells [(I o0c0_0)])) → (s_1 : σ_0 a_1 = some (.cells [(.ptr a_2 0)])) → (s_2 : σ_0 a_2 = some (.cells [(I o2c0_0)])) → (ne_0_1 : a_0 ≠ a_1) → (ne_0_2 : a_0 ≠ a_2) → (ne_1_2 : a_1 ≠ a_2) → AC Tryz.prog 104 [(LTerm p_0 tk_0), (.fn 139 [(.ptr a_0 0), (.ptr a_1 0)])] σ_0 (fun v s => v = (.bool r.1) ∧ s a_2 = some (.cells [(I r.2)]) ∧ Fr σ_0 s [a_2])

def Q_IndexFunc_Term__i_scan_1 (c : (List STerm) → Int → Int → Option (Int × Int)) : Prop := ∀ (p_0 : (List STerm)) (tk_0 : Tk) (a_0 : Nat) (o0c0_0 : Int) (a_1 : Nat) (a_2 : Nat) (o2c0_0 : Int) (r : Int × Int), c p_0 o0c0_0 o2c0_0 = some r → ∀ (σ_0 : St), (s_0 : σ_0 a_0 = some (.cells [(I o0c0_0)])) → (s_1 : σ_0 a_1 = some (.cells [(.ptr a_2 0)])) → (s_2 : σ_0 a_2 = some (.cells [(I o2c0_0)])) → (ne_0_1 : a_0 ≠ a_1) → (ne_0_2 : a_0 ≠ a_2) → (ne_1_2 : a_1 ≠ a_2) → AC Tryz.prog 142 [(LTerm p_0 tk_0), (.fn 139 [(.ptr a_0 0), (.ptr a_1 0)])] σ_0 (fun v s => v = (I r.1) ∧ s a_2 = some (.cells [(I r.2)]) ∧ Fr σ_0 s [a_2])

def Q_i_scan_1 (c : STerm → Int → Int → Option (Bool × Int)) : Prop := ∀ (p_0 : STerm) (a_0 : Nat) (o0c0_0 : Int) (a_1 : Nat) (a_2 : Nat) (o2c0_0 : Int) (r : Bool × Int), c p_0 o0c0_0 o2c0_0 = some r → ∀ (σ_0 : St), (s_0 : σ_0 a_0 = some (.cells [(I o0c0_0)])) → (s_1 : σ_0 a_1 = some (.cells [(.ptr a_2 0)])) → (s_2 : σ_0 a_2 = some (.cells [(I o2c0_0)])) → (ne_0_1 : a_0 ≠ a_1) → (ne_0_2 : a_0 ≠ a_2) → (ne_1_2 : a_1 ≠ a_2) → AC Tryz.prog 139 [(.agg (cTerm p_0)), (.ptr a_0 0), (.ptr a_1 0)] σ_0 (fun v s => v = (.bool r.1) ∧ s a_2 = some (.cells [(I r.2)]) ∧ Fr σ_0 s [a_2])

theorem b_i_scan (f : Nat) {c_i_scan : STerm → Int → Int → Option (Bool × Int)} (ih_i_scan : Q_i_scan c_i_scan) {c_i_scan_1 : STerm → Int → Int → Option (Bool × Int)} (ih_i_scan_1 : Q_i_scan_1 c_i_scan_1) {c_ContainsFunc_Term__i_scan_1 : (List STerm) → Int → Int → Option (Bool × Int)} (ih_ContainsFunc_Term__i_scan_1 : Q_ContainsFunc_Term__i_scan_1 c_ContainsFunc_Term__i_scan_1) {c_IndexFunc_Term__i_scan_1 : (List STerm) → Int → Int → Option (Int × Int)} (ih_IndexFunc_Term__i_scan_1 : Q_IndexFunc_Term__i_scan_1 c_IndexFunc_Term__i_scan_1) : Q_i_scan (B_i_scan f c_i_scan c_i_scan_1 c_ContainsFunc_Term__i_scan_1 c_IndexFunc_Term__i_scan_1) := by
 intro p_0 p_1 a_0 o0c0_0 r hM σ_0 s_0
 have F_0 := Fr.refl σ_0 [a_0]
 unfold B_i_scan at hM
 refine AC.of_body Tryz.func100 rfl rfl (by rfl) (by simp [Tryz.f100]) <| SW.seqR fun K0 hK0 => R.op rfl (a_box (v := (.agg (cTerm p_0))) rfl rfl fun a0 σ0 n0 s0 hF0 => ?_)
 have ne0 := ne_new n0 s_0
 have lo0 := F_0.lo1 n0
 have s1 := hF0.keep s_0 (by simp)
 have F0 := F_0.andThen hF0 Lo.nil
 refine R.op rfl (a_box rfl rfl fun a1 σ1 n1 s2 hF1 => ?_)
 have ne1 := ne_new n1 s1
 have ne2 := ne_new n1 s0
 have lo2 := F0.lo1 n1
 have s3 := hF1.keep s1 (by simp)
 have s4 := hF1.keep s0 (by simp)
 have F1 := F0.andThen hF1 Lo.nil
 refine R.op rfl (a_box rfl rfl fun a2 σ2 n2 s5 hF2 => ?_)
 have ne3 := ne_new n2 s3
 have ne4 := ne_new n2 s4
 have ne5 := ne_new n2 s2
 have lo3 := F1.lo1 n2
 have s6 := hF2.keep s3 (by simp)
 have s7 := hF2.keep s4 (by simp)
 have s8 := hF2.keep s2 (by simp)
 have F2 := F1.andThen hF2 Lo.nil
 refine sn rfl <| R.done (hK0 _ _ (SW.seqR fun K1 hK1 => ld ti114 rfl s5 rfl (np rfl (ld ti3 rfl s6 rfl (it rfl rfl rfl (np rfl (R.op rfl (a_store (cs' := [(I (IntKind.wrap .i64 (o0c0_0 + 1)))]) ti3 rfl rfl s6 rfl (nb rfl) rfl rfl fun σ3 s9 hF3 => ?_))))))))
 have sa := hF3.keep s7 (m1 (Ne.symm ne0))
 have sb := hF3.keep s8 (m1 (Ne.symm ne1))
 have sc := hF3.keep s5 (m1 (Ne.symm ne3))
 have F3 := F2.andThen hF3 (Lo.mem fun j_ hj_ => hj_)
 refine R.done (hK1 _ _ (SW.seq (SW.seqK fun K2 hK2 => ?_)))
 obtain ⟨J3, eJ0, hM⟩ := jn_elim hM
 have hJ0 : ∀ (v0 : Bool) (env0 : Env) (σ4 : St), Fr σ_0 σ4 [a_0] → env0.get 3 = some (.ptr a0 0) → env0.get 4 = some (.ptr a1 0) → env0.get 5 = some (.ptr a2 0) → env0.get 19 = some (.bool v0) → σ4 a0 = some (.cells (cTerm p_0)) → σ4 a1 = some (.cells [(I p_1)]) → σ4 a2 = some (.cells [(.ptr a_0 0)]) → σ4 a_0 = some (.cells [(I (IntKind.wrap .i64 (o0c0_0 + 1)))]) → J3 v0 = some r → K2 env0 σ4 := by
  intro v0 env0 σ4 F4 h0 h1 h2 h3 sd se sf sg hM
  subst eJ0
  refine hK2 _ _ <| SW.cond h3 (fun hb0 => ?_) (fun hb0 => ?_)
  · have hM := cT hb0 hM
    refine SW.seqR fun K3 hK3 => sn rfl <| R.done (hK3 _ _ (SW.ret (Qt ?_)))
    obtain rfl := si hM
    exact ret_of (rc rfl rn) (.bool false) _ (Le.refl _) (StLe.refl _) ⟨rfl, sg, F4⟩
  · have hM := cF hb0 hM
    refine SW.skip <| SW.seq <| SW.seqR fun K4 hK4 => fp ti25 rfl h0 rfl (by decide) <| ld ti3 rfl sd rfl <| R.done (hK4 _ _ (SW.block (SW.seqR fun K5 hK5 => it rfl rfl rfl (sn rfl (R.done (hK5 _ _ (SW.cond rfl (fun hb1 => ?_) (fun hb1 => ?_))))))))
    · have hM := cT hb1 hM
      refine SW.seqK fun K6 hK6 => ?_
      obtain ⟨J0, eJ1, hM⟩ := jn_elim hM
      have hJ1 : ∀ (v1 : Bool) (env1 : Env) (σ5 : St), Fr σ_0 σ5 [a_0] → env1.get 6 = some (.bool v1) → σ5 a0 = some (.cells (cTerm p_0)) → σ5 a_0 = some (.cells [(I (IntKind.wrap .i64 (o0c0_0 + 1)))]) → J0 v1 = some r → K6 env1 σ5 := by
       intro v1 env1 σ5 F5 h4 sh sj hM
       subst eJ1
       refine hK6 _ _ <| SW.ret <| Qb <| Qt ?_
       obtain rfl := si hM
       exact ret_of (rc h4 rn) (.bool v1) _ (Le.refl _) (StLe.refl _) ⟨rfl, sj, F5⟩
      clear eJ1
      refine SW.region <| fp ti25 rfl h0 rfl (by decide) <| ld ti3 rfl sd rfl ?_
      obtain ⟨z0, hr0, hM⟩ := bd hM
      refine cp (r_i_within f p_0.n 0 25 z0 hr0 _) rfl (oc rfl (oc rfl (oc rfl on))) (LeL.refl _) <| mv rfl ?_
      rcases bcase z0 with hb2 | hb2
      · have hM := cT hb2 hM
        refine R.go z0 rfl hb2 (a_fieldPtr ti25 rfl h0 rfl (by decide) (R.go z0 rfl hb2 (a_loadPtr ti9 rfl sd rfl (R.go z0 rfl hb2 (a_str rfl rfl rfl (R.op rfl (a_pickT rfl hb2 rfl (mv rfl ?_))))))))
        rcases bcase (decide (p_0.name = (⟨#[]⟩ : ByteArray))) with hb3 | hb3
        · have hM := cT hb3 hM
          refine R.go (decide (p_0.name = (⟨#[]⟩ : ByteArray))) rfl hb3 (a_fieldPtr ti25 rfl h0 rfl (by decide) (R.go (decide (p_0.name = (⟨#[]⟩ : ByteArray))) rfl hb3 (a_loadPtr ti23 rfl sd rfl (R.go (decide (p_0.name = (⟨#[]⟩ : ByteArray))) rfl hb3 (a_lenImm ti23 rfl rfl (n := (p_0.kids.length : Int)) (by simp) (R.go (decide (p_0.name = (⟨#[]⟩ : ByteArray))) rfl hb3 (a_int rfl rfl rfl (R.op rfl (a_pickT rfl hb3 rfl (sn rfl (R.done ?_)))))))))))
          exact hJ1 ((p_0.kids.length : Int) == 0) _ _ F4 rfl sd sg hM
        · have hM := cF hb3 hM
          refine R.not (decide (p_0.name = (⟨#[]⟩ : ByteArray))) rfl hb3 <| R.not (decide (p_0.name = (⟨#[]⟩ : ByteArray))) rfl hb3 <| R.not (decide (p_0.name = (⟨#[]⟩ : ByteArray))) rfl hb3 <| R.not (decide (p_0.name = (⟨#[]⟩ : ByteArray))) rfl hb3 <| R.op rfl (a_pickF rfl hb3 rfl (sn rfl (R.done ?_)))
          exact hJ1 false _ _ F4 rfl sd sg hM
      · have hM := cF hb2 hM
        refine R.not z0 rfl hb2 <| R.not z0 rfl hb2 <| R.not z0 rfl hb2 <| R.op rfl (a_pickF rfl hb2 rfl (mv rfl (R.not false rfl rfl (R.not false rfl rfl (R.not false rfl rfl (R.not false rfl rfl (R.op rfl (a_pickF rfl rfl rfl (sn rfl (R.done ?_))))))))))
        exact hJ1 false _ _ F4 rfl sd sg hM
    · have hM := cF hb1 hM
      refine SW.seqR fun K7 hK7 => it rfl rfl rfl <| sn rfl <| R.done (hK7 _ _ (SW.cond rfl (fun hb4 => ?_) (fun hb4 => ?_)))
      · have hM := cT hb4 hM
        refine SW.seqK fun K8 hK8 => ?_
        obtain ⟨J1, eJ2, hM⟩ := jn_elim hM
        have hJ2 : ∀ (v2 : Bool) (env2 : Env) (σ6 : St), Fr σ_0 σ6 [a_0] → env2.get 6 = some (.bool v2) → σ6 a0 = some (.cells (cTerm p_0)) → σ6 a_0 = some (.cells [(I (IntKind.wrap .i64 (o0c0_0 + 1)))]) → J1 v2 = some r → K8 env2 σ6 := by
         intro v2 env2 σ6 F6 h5 sk sl hM
         subst eJ2
         refine hK8 _ _ <| SW.ret <| Qb <| Qt ?_
         obtain rfl := si hM
         exact ret_of (rc h5 rn) (.bool v2) _ (Le.refl _) (StLe.refl _) ⟨rfl, sl, F6⟩
        clear eJ2
        refine SW.region <| fp ti25 rfl h0 rfl (by decide) <| ld ti3 rfl sd rfl ?_
        obtain ⟨z1, hr1, hM⟩ := bd hM
        refine cp (r_i_within f p_0.n (-999) 999 z1 hr1 _) rfl (oc rfl (oc rfl (oc rfl on))) (LeL.refl _) <| mv rfl ?_
        rcases bcase z1 with hb5 | hb5
        · have hM := cT hb5 hM
          refine R.go z1 rfl hb5 (a_fieldPtr ti25 rfl h0 rfl (by decide) (R.go z1 rfl hb5 (a_loadPtr ti9 rfl sd rfl (R.go z1 rfl hb5 (a_str rfl rfl rfl (R.op rfl (a_pickT rfl hb5 rfl (mv rfl ?_))))))))
          rcases bcase (decide (p_0.name = (⟨#[]⟩ : ByteArray))) with hb6 | hb6
          · have hM := cT hb6 hM
            refine R.go (decide (p_0.name = (⟨#[]⟩ : ByteArray))) rfl hb6 (a_fieldPtr ti25 rfl h0 rfl (by decide) (R.go (decide (p_0.name = (⟨#[]⟩ : ByteArray))) rfl hb6 (a_loadPtr ti23 rfl sd rfl (R.go (decide (p_0.name = (⟨#[]⟩ : ByteArray))) rfl hb6 (a_lenImm ti23 rfl rfl (n := (p_0.kids.length : Int)) (by simp) (R.go (decide (p_0.name = (⟨#[]⟩ : ByteArray))) rfl hb6 (a_int rfl rfl rfl (R.op rfl (a_pickT rfl hb6 rfl (sn rfl (R.done ?_)))))))))))
            exact hJ2 ((p_0.kids.length : Int) == 0) _ _ F4 rfl sd sg hM
          · have hM := cF hb6 hM
            refine R.not (decide (p_0.name = (⟨#[]⟩ : ByteArray))) rfl hb6 <| R.not (decide (p_0.name = (⟨#[]⟩ : ByteArray))) rfl hb6 <| R.not (decide (p_0.name = (⟨#[]⟩ : ByteArray))) rfl hb6 <| R.not (decide (p_0.name = (⟨#[]⟩ : ByteArray))) rfl hb6 <| R.op rfl (a_pickF rfl hb6 rfl (sn rfl (R.done ?_)))
            exact hJ2 false _ _ F4 rfl sd sg hM
        · have hM := cF hb5 hM
          refine R.not z1 rfl hb5 <| R.not z1 rfl hb5 <| R.not z1 rfl hb5 <| R.op rfl (a_pickF rfl hb5 rfl (mv rfl (R.not false rfl rfl (R.not false rfl rfl (R.not false rfl rfl (R.not false rfl rfl (R.op rfl (a_pickF rfl rfl rfl (sn rfl (R.done ?_))))))))))
          exact hJ2 false _ _ F4 rfl sd sg hM
      · have hM := cF hb4 hM
        refine SW.seqR fun K9 hK9 => it rfl rfl rfl <| sn rfl <| R.done (hK9 _ _ (SW.cond rfl (fun hb7 => ?_) (fun hb7 => ?_)))
        · have hM := cT hb7 hM
          refine SW.seq <| SW.seqK fun Ka hKa => ?_
          obtain ⟨J2, eJ3, hM⟩ := jn_elim hM
          have hJ3 : ∀ (v3 : Bool) (env3 : Env) (σ7 : St), Fr σ_0 σ7 [a_0] → env3.get 3 = some (.ptr a0 0) → env3.get 4 = some (.ptr a1 0) → env3.get 5 = some (.ptr a2 0) → env3.get 70 = some (.bool v3) → σ7 a0 = some (.cells (cTerm p_0)) → σ7 a1 = some (.cells [(I p_1)]) → σ7 a2 = some (.cells [(.ptr a_0 0)]) → σ7 a_0 = some (.cells [(I (IntKind.wrap .i64 (o0c0_0 + 1)))]) → J2 v3 = some r → Ka env3 σ7 := by
           intro v3 env3 σ7 F7 h6 h7 h8 h9 sm so sp sq hM
           subst eJ3
           refine hKa _ _ <| SW.cond h9 (fun hb8 => ?_) (fun hb8 => ?_)
           · have hM := cT hb8 hM
             refine SW.seqR fun Kb hKb => sn rfl <| R.done (hKb _ _ (SW.ret (Qt (Qb (Qt ?_)))))
             obtain rfl := si hM
             exact ret_of (rc rfl rn) (.bool false) _ (Le.refl _) (StLe.refl _) ⟨rfl, sq, F7⟩
           · have hM := cF hb8 hM
             refine SW.skip <| SW.seqR fun Kc hKc => fp ti25 rfl h6 rfl (by decide) <| ld ti23 rfl sm rfl <| R.op rfl (a_makeFunc rfl (oc h7 (oc h8 on)) ?_)
             obtain ⟨z2, hr2, hM⟩ := bd hM
             refine cl rfl (oc rfl (oc rfl on)) (AC.go (ih_ContainsFunc_Term__i_scan_1 p_0.kids .no a1 p_1 a2 a_0 (IntKind.wrap .i64 (o0c0_0 + 1)) z2 hr2 _ so sp sq ne5 (Ne.symm ne1) (Ne.symm ne3)) (LeL.refl _) (StLe.refl _) fun v_ σ8 hp_ => ?_)
             obtain ⟨rfl, sr, hF4⟩ := hp_
             have ss := hF4.keep sm (m1 (Ne.symm ne0))
             have st := hF4.keep so (m1 (Ne.symm ne1))
             have su := hF4.keep sp (m1 (Ne.symm ne3))
             have F8 := F7.andThen hF4 (Lo.mem fun j_ hj_ => hj_)
             refine no rfl <| sn rfl <| R.done (hKc _ _ (SW.ret (Qb (Qt ?_))))
             obtain rfl := si hM
             exact ret_of (rc rfl rn) (.bool (!z2.1)) _ (Le.refl _) (StLe.refl _) ⟨rfl, sr, F8⟩
          clear eJ3
          refine SW.region <| fp ti25 rfl h0 rfl (by decide) <| ld ti3 rfl sd rfl <| it rfl rfl rfl <| mv rfl ?_
          rcases bcase (!(p_0.n == 0)) with hb9 | hb9
          · have hM := cT hb9 hM
            refine R.notf (!(p_0.n == 0)) rfl hb9 <| R.notf (!(p_0.n == 0)) rfl hb9 <| R.notf (!(p_0.n == 0)) rfl hb9 <| R.notf (!(p_0.n == 0)) rfl hb9 <| R.op rfl (a_pickT rfl hb9 rfl (mv rfl (R.notf true rfl rfl (R.notf true rfl rfl (R.notf true rfl rfl (R.notf true rfl rfl (R.op rfl (a_pickT rfl rfl rfl (R.done ?_)))))))))
            exact hJ3 true _ _ F4 h0 h1 h2 rfl sd se sf sg hM
          · have hM := cF hb9 hM
            refine R.gof (!(p_0.n == 0)) rfl hb9 (a_fieldPtr ti25 rfl h0 rfl (by decide) (R.gof (!(p_0.n == 0)) rfl hb9 (a_loadPtr ti9 rfl sd rfl ?_)))
            obtain ⟨z3, hr3, hM⟩ := bd hM
            refine R.gof (!(p_0.n == 0)) rfl hb9 (a_call (g := 138) rfl (oc rfl on) (AC.goP (r_i_NameValid f p_0.name z3 hr3 _) (LeL.refl _) (R.gof (!(p_0.n == 0)) rfl hb9 (a_not rfl (R.op rfl (a_pickF rfl hb9 rfl (mv rfl ?_)))))))
            rcases bcase (!z3) with hba | hba
            · have hM := cT hba hM
              refine R.notf (!z3) rfl hba <| R.notf (!z3) rfl hba <| R.notf (!z3) rfl hba <| R.notf (!z3) rfl hba <| R.op rfl (a_pickT rfl hba rfl (R.done ?_))
              exact hJ3 true _ _ F4 h0 h1 h2 rfl sd se sf sg hM
            · have hM := cF hba hM
              refine R.gof (!z3) rfl hba (a_fieldPtr ti25 rfl h0 rfl (by decide) (R.gof (!z3) rfl hba (a_loadPtr ti23 rfl sd rfl (R.gof (!z3) rfl hba (a_lenImm ti23 rfl rfl (n := (p_0.kids.length : Int)) (by simp) (R.gof (!z3) rfl hba (a_int rfl rfl rfl (R.op rfl (a_pickF rfl hba rfl (R.done ?_))))))))))
              exact hJ3 (decide (4 < (p_0.kids.length : Int))) _ _ F4 h0 h1 h2 rfl sd se sf sg hM
        · have hM := cF hb7 hM
          refine SW.skip <| SW.seqR fun Kd hKd => sn rfl <| R.done (hKd _ _ (SW.ret ?_))
          obtain rfl := si hM
          exact ret_of (rc rfl rn) (.bool false) _ (Le.refl _) (StLe.refl _) ⟨rfl, sg, F4⟩
 clear eJ0
 refine SW.region <| ld ti114 rfl sc rfl <| np rfl <| ld ti3 rfl s9 rfl <| it rfl rfl rfl <| mv rfl ?_
 rcases bcase (decide (120 < (IntKind.wrap .i64 (o0c0_0 + 1)))) with hbb | hbb
 · have hM := cT hbb hM
   refine R.notf (decide (120 < (IntKind.wrap .i64 (o0c0_0 + 1)))) rfl hbb <| R.notf (decide (120 < (IntKind.wrap .i64 (o0c0_0 + 1)))) rfl hbb <| R.op rfl (a_pickT rfl hbb rfl (R.done ?_))
   exact hJ0 true _ _ F3 rfl rfl rfl rfl sa sb sc s9 hM
 · have hM := cF hbb hM
   refine R.gof (decide (120 < (IntKind.wrap .i64 (o0c0_0 + 1)))) rfl hbb (a_loadPtr ti3 rfl sb rfl (R.gof (decide (120 < (IntKind.wrap .i64 (o0c0_0 + 1)))) rfl hbb (a_int rfl rfl rfl (R.op rfl (a_pickF rfl hbb rfl (R.done ?_))))))
   exact hJ0 (decide (30 < p_1)) _ _ F3 rfl rfl rfl rfl sa sb sc s9 hM

theorem b_ContainsFunc_Term__i_scan_1 (f : Nat) {c_i_scan : STerm → Int → Int → Option (Bool × Int)} (ih_i_scan : Q_i_scan c_i_scan) {c_i_scan_1 : STerm → Int → Int → Option (Bool × Int)} (ih_i_scan_1 : Q_i_scan_1 c_i_scan_1) {c_ContainsFunc_Term__i_scan_1 : (List STerm) → Int → Int → Option (Bool × Int)} (ih_ContainsFunc_Term__i_scan_1 : Q_ContainsFunc_Term__i_scan_1 c_ContainsFunc_Term__i_scan_1) {c_IndexFunc_Term__i_scan_1 : (List STerm) → Int → Int → Option (Int × Int)} (ih_IndexFunc_Term__i_scan_1 : Q_IndexFunc_Term__i_scan_1 c_IndexFunc_Term__i_scan_1) : Q_ContainsFunc_Term__i_scan_1 (B_ContainsFunc_Term__i_scan_1 f c_i_scan c_i_scan_1 c_ContainsFunc_Term__i_scan_1 c_IndexFunc_Term__i_scan_1) := by
 intro p_0 tk_0 a_0 o0c0_0 a_1 a_2 o2c0_0 r hM σ_0 s_0 s_1 s_2 ne_0_1 ne_0_2 ne_1_2
 have F_0 := Fr.refl σ_0 [a_2]
 unfold B_ContainsFunc_Term__i_scan_1 at hM
 refine AC.of_body Tryz.func104 rfl rfl (by rfl) (by simp [Tryz.f104]) <| SW.seqR fun K0 hK0 => sn rfl <| R.done (hK0 _ _ (SW.seqR fun Ke hKe => mv rfl (mv rfl ?_)))
 obtain ⟨z4, hr4, hM⟩ := bd hM
 refine cl rfl (oc rfl (oc rfl on)) (AC.go (ih_IndexFunc_Term__i_scan_1 p_0 tk_0 a_0 o0c0_0 a_1 a_2 o2c0_0 z4 hr4 _ s_0 s_1 s_2 ne_0_1 ne_0_2 ne_1_2) (LeL.refl _) (StLe.refl _) fun v_ σ9 hp_ => ?_)
 obtain ⟨rfl, sv, hF5⟩ := hp_
 have s1 := hF5.keep s_0 (m1 ne_0_2)
 have sw := hF5.keep s_1 (m1 ne_1_2)
 have F9 := F_0.andThen hF5 (Lo.mem fun j_ hj_ => hj_)
 refine it rfl rfl rfl <| sn rfl <| R.done (hKe _ _ (SW.ret ?_))
 obtain rfl := si hM
 exact ret_of (rc rfl rn) (.bool (decide (0 ≤ z4.1))) _ (Le.refl _) (StLe.refl _) ⟨rfl, sv, F9⟩

theorem b_IndexFunc_Term__i_scan_1 (f : Nat) {c_i_scan : STerm → Int → Int → Option (Bool × Int)} (ih_i_scan : Q_i_scan c_i_scan) {c_i_scan_1 : STerm → Int → Int → Option (Bool × Int)} (ih_i_scan_1 : Q_i_scan_1 c_i_scan_1) {c_ContainsFunc_Term__i_scan_1 : (List STerm) → Int → Int → Option (Bool × Int)} (ih_ContainsFunc_Term__i_scan_1 : Q_ContainsFunc_Term__i_scan_1 c_ContainsFunc_Term__i_scan_1) {c_IndexFunc_Term__i_scan_1 : (List STerm) → Int → Int → Option (Int × Int)} (ih_IndexFunc_Term__i_scan_1 : Q_IndexFunc_Term__i_scan_1 c_IndexFunc_Term__i_scan_1) : Q_IndexFunc_Term__i_scan_1 (B_IndexFunc_Term__i_scan_1 f c_i_scan c_i_scan_1 c_ContainsFunc_Term__i_scan_1 c_IndexFunc_Term__i_scan_1) := by
 intro p_0 tk_0 a_0 o0c0_0 a_1 a_2 o2c0_0 r hM σ_0 s_0 s_1 s_2 ne_0_1 ne_0_2 ne_1_2
 have F_0 := Fr.refl σ_0 [a_2]
 unfold B_IndexFunc_Term__i_scan_1 at hM
 refine AC.of_body Tryz.func142 rfl rfl (by rfl) (by simp [Tryz.f142]) <| SW.seqR fun K0 hK0 => sn rfl <| R.done (hK0 _ _ (SW.seqK fun Kf hKf => ?_))
 obtain ⟨J4, eJ4, hM⟩ := jn_elim hM
 have hJ4 : ∀ (v6 : Int) (env4 : Env) (σa : St), Fr σ_0 σa [a_2] → σa a_0 = some (.cells [(I o0c0_0)]) → σa a_1 = some (.cells [(.ptr a_2 0)]) → σa a_2 = some (.cells [(I v6)]) → J4 v6 = some r → Kf env4 σa := by
  intro v6 env4 σa Fa sx sy sz hM
  subst eJ4
  refine hKf _ _ <| SW.seqR fun Kg hKg => sn rfl <| R.done (hKg _ _ (SW.ret ?_))
  obtain rfl := si hM
  exact ret_of (rc rfl rn) (I (-1)) _ (Le.refl _) (StLe.refl _) ⟨rfl, sz, Fa⟩
 clear eJ4
 refine SW.seqR fun Kh hKh => mv rfl <| R.op rfl (a_lenImm ti23 rfl rfl (n := (p_0.length : Int)) (by simp) (mv rfl (R.done (hKh _ _ (SW.block (SW.loop (LW.ind (I := fun n3 env5 σb => ∃ (v4 : Int) (v5 : Int), Fr σ_0 σb [a_2] ∧ env5.get 0 = some (LTerm p_0 tk_0) ∧ env5.get 1 = some (.fn 139 [(.ptr a_0 0), (.ptr a_1 0)]) ∧ env5.get 7 = some (I (p_0.length : Int)) ∧ env5.get 8 = some (I v4) ∧ σb a_0 = some (.cells [(I o0c0_0)]) ∧ σb a_1 = some (.cells [(.ptr a_2 0)]) ∧ σb a_2 = some (.cells [(I v5)]) ∧ L_IndexFunc_Term__i_scan_1_1 c_i_scan_1 p_0 o0c0_0 J4 n3 v4 v5 = some r) ?_ f _ _ ⟨0, o2c0_0, F_0, rfl, rfl, rfl, rfl, s_0, s_1, s_2, hM⟩)))))))
 rintro n3 env5 σb ⟨v4, v5, Fb, ha, hb, hc, hd, s10, s11, s12, hM⟩
 cases n3 with
 | zero => (rw [L_IndexFunc_Term__i_scan_1_1] at hM; cases hM)
 | succ n3 =>
  rw [L_IndexFunc_Term__i_scan_1_1] at hM
  refine SW.seqR fun Ki hKi => it hd hc rfl <| R.done (hKi _ _ (SW.seq (SW.cond rfl (fun hbc => ?_) (fun hbc => ?_))))
  · have hM := cT hbc hM
    refine SW.skip <| SW.seq <| SW.block <| SW.seqR fun Kj hKj => mv hd <| sn rfl <| R.done (hKj _ _ (SW.seqR fun Kk hKk => mv hb (mv ha (mv rfl ?_))))
    obtain ⟨hg0, hM⟩ := gd hM
    obtain ⟨x0, hx0, hM⟩ := bd hM
    refine R.op rfl (a_idxImm (f := eTerm) (xs := p_0) (n := v4) (e := x0) (v := (.agg (cTerm x0))) ti23 rfl ti25 rfl rfl rfl (od hg0) hx0 (eTerm_eq x0) (li (v := (.agg (cTerm x0))) ti25 rfl rfl ?_))
    obtain ⟨z5, hr5, hM⟩ := bd hM
    refine cl rfl (oc rfl on) (AC.go (ih_i_scan_1 x0 a_0 o0c0_0 a_1 a_2 v5 z5 hr5 _ s10 s11 s12 ne_0_1 ne_0_2 ne_1_2) (LeL.refl _) (StLe.refl _) fun v_ σc hp_ => ?_)
    obtain ⟨rfl, s13, hF6⟩ := hp_
    have s14 := hF6.keep s10 (m1 ne_0_2)
    have s15 := hF6.keep s11 (m1 ne_1_2)
    have Fc := Fb.andThen hF6 (Lo.mem fun j_ hj_ => hj_)
    refine R.done (hKk _ _ (SW.cond rfl (fun hbd => ?_) (fun hbd => ?_)))
    · have hM := cT hbd hM
      refine SW.seqR fun Kl hKl => mv rfl <| sn rfl <| R.done (hKl _ _ (SW.ret (Qb (Qt (Qt (Qb (Qt ?_)))))))
      obtain rfl := si hM
      exact ret_of (rc rfl rn) (I v4) _ (Le.refl _) (StLe.refl _) ⟨rfl, s13, Fc⟩
    · have hM := cF hbd hM
      refine SW.skip <| SW.region <| it hd rfl rfl <| mv rfl <| R.done ?_
      exact ⟨n3, Nat.lt_succ_self _, (IntKind.wrap .i64 (v4 + 1)), z5.2, Fc, ha, hb, hc, rfl, s14, s15, s13, hM⟩
  · have hM := cF hbc hM
    refine SW.exit <| Qte <| Qte <| Qbx ?_
    exact hJ4 v5 _ _ Fb s10 s11 s12 hM

theorem b_i_scan_1 (f : Nat) {c_i_scan : STerm → Int → Int → Option (Bool × Int)} (ih_i_scan : Q_i_scan c_i_scan) {c_i_scan_1 : STerm → Int → Int → Option (Bool × Int)} (ih_i_scan_1 : Q_i_scan_1 c_i_scan_1) {c_ContainsFunc_Term__i_scan_1 : (List STerm) → Int → Int → Option (Bool × Int)} (ih_ContainsFunc_Term__i_scan_1 : Q_ContainsFunc_Term__i_scan_1 c_ContainsFunc_Term__i_scan_1) {c_IndexFunc_Term__i_scan_1 : (List STerm) → Int → Int → Option (Int × Int)} (ih_IndexFunc_Term__i_scan_1 : Q_IndexFunc_Term__i_scan_1 c_IndexFunc_Term__i_scan_1) : Q_i_scan_1 (B_i_scan_1 f c_i_scan c_i_scan_1 c_ContainsFunc_Term__i_scan_1 c_IndexFunc_Term__i_scan_1) := by
 intro p_0 a_0 o0c0_0 a_1 a_2 o2c0_0 r hM σ_0 s_0 s_1 s_2 ne_0_1 ne_0_2 ne_1_2
 have F_0 := Fr.refl σ_0 [a_2]
 unfold B_i_scan_1 at hM
 refine AC.of_body Tryz.func139 rfl rfl (by rfl) (by simp [Tryz.f139]) <| SW.seqR fun K0 hK0 => R.op rfl (a_box (v := (.agg (cTerm p_0))) rfl rfl fun a0 σ0 n0 s0 hF0 => ?_)
 have ne0 := ne_new n0 s_0
 have ne6 := ne_new n0 s_1
 have ne7 := ne_new n0 s_2
 have lo4 := F_0.lo1 n0
 have s16 := hF0.keep s_0 (by simp)
 have s17 := hF0.keep s_1 (by simp)
 have s18 := hF0.keep s_2 (by simp)
 have Fd := F_0.andThen hF0 Lo.nil
 refine sn rfl <| R.done (hK0 _ _ (SW.seqR fun Km hKm => ld (v := (.agg (cTerm p_0))) ti25 rfl s0 rfl (ld ti3 rfl s16 rfl (it rfl rfl rfl (ld ti114 rfl s17 rfl ?_)))))
 obtain ⟨z6, hr6, hM⟩ := bd hM
 refine cl rfl (oc rfl (oc rfl (oc rfl on))) (AC.go (ih_i_scan p_0 (IntKind.wrap .i64 (o0c0_0 + 1)) a_2 o2c0_0 z6 hr6 _ s18) (LeL.refl _) (StLe.refl _) fun v_ σd hp_ => ?_)
 obtain ⟨rfl, s19, hF7⟩ := hp_
 have s1a := hF7.keep s16 (m1 ne_0_2)
 have s1b := hF7.keep s17 (m1 ne_1_2)
 have s1c := hF7.keep s0 (m1 (Ne.symm ne7))
 have Fe := Fd.andThen hF7 (Lo.mem fun j_ hj_ => hj_)
 refine no rfl <| sn rfl <| R.done (hKm _ _ (SW.ret ?_))
 obtain rfl := si hM
 exact ret_of (rc rfl rn) (.bool (!z6.1)) _ (Le.refl _) (StLe.refl _) ⟨rfl, s19, Fe⟩

theorem rr_i_scan (f : Nat) : Q_i_scan (M_i_scan f) ∧ Q_ContainsFunc_Term__i_scan_1 (M_ContainsFunc_Term__i_scan_1 f) ∧ Q_IndexFunc_Term__i_scan_1 (M_IndexFunc_Term__i_scan_1 f) ∧ Q_i_scan_1 (M_i_scan_1 f) := by
 induction f with
 | zero => exact ⟨(by intro p_0 p_1 a_0 o0c0_0 r hM; rw [M_i_scan] at hM; cases hM), (by intro p_0 tk_0 a_0 o0c0_0 a_1 a_2 o2c0_0 r hM; rw [M_ContainsFunc_Term__i_scan_1] at hM; cases hM), (by intro p_0 tk_0 a_0 o0c0_0 a_1 a_2 o2c0_0 r hM; rw [M_IndexFunc_Term__i_scan_1] at hM; cases hM), (by intro p_0 a_0 o0c0_0 a_1 a_2 o2c0_0 r hM; rw [M_i_scan_1] at hM; cases hM)⟩
 | succ f ih => exact ⟨(by intro p_0 p_1 a_0 o0c0_0 r hM; rw [M_i_scan] at hM; exact b_i_scan f ih.1 ih.2.2.2 ih.2.1 ih.2.2.1 p_0 p_1 a_0 o0c0_0 r hM), (by intro p_0 tk_0 a_0 o0c0_0 a_1 a_2 o2c0_0 r hM; rw [M_ContainsFunc_Term__i_scan_1] at hM; exact b_ContainsFunc_Term__i_scan_1 f ih.1 ih.2.2.2 ih.2.1 ih.2.2.1 p_0 tk_0 a_0 o0c0_0 a_1 a_2 o2c0_0 r hM), (by intro p_0 tk_0 a_0 o0c0_0 a_1 a_2 o2c0_0 r hM; rw [M_IndexFunc_Term__i_scan_1] at hM; exact b_IndexFunc_Term__i_scan_1 f ih.1 ih.2.2.2 ih.2.1 ih.2.2.1 p_0 tk_0 a_0 o0c0_0 a_1 a_2 o2c0_0 r hM), (by intro p_0 a_0 o0c0_0 a_1 a_2 o2c0_0 r hM; rw [M_i_scan_1] at hM; exact b_i_scan_1 f ih.1 ih.2.2.2 ih.2.1 ih.2.2.1 p_0 a_0 o0c0_0 a_1 a_2 o2c0_0 r hM)⟩

theorem r_i_scan (f : Nat) : Q_i_scan (M_i_scan f) := (rr_i_scan f).1

theorem r_ContainsFunc_Term__i_scan_1 (f : Nat) : Q_ContainsFunc_Term__i_scan_1 (M_ContainsFunc_Term__i_scan_1 f) := (rr_i_scan f).2.1

theorem r_IndexFunc_Term__i_scan_1 (f : Nat) : Q_IndexFunc_Term__i_scan_1 (M_IndexFunc_Term__i_scan_1 f) := (rr_i_scan f).2.2.1

theorem r_i_scan_1 (f : Nat) : Q_i_scan_1 (M_i_scan_1 f) := (rr_i_scan f).2.2.2

def M_i_TermValid (f : Nat) (p_0 : STerm) : Option Bool :=
 Option.bind (M_i_scan f p_0 1 0) fun z0 =>
 some (z0.1)

theorem r_i_TermValid (f : Nat) (p_0 : STerm) (r : Bool) (hM : M_i_TermValid f p_0 = some r) (σ_0 : St) : AC Tryz.prog 61 [(.agg (cTerm p_0))] σ_0 (fun v s => v = (.bool r) ∧ s = σ_0) := by
 have F_0 := Fr.refl σ_0 []
 unfold M_i_TermValid at hM
 refine AC.of_body Tryz.func61 rfl rfl (by rfl) (by simp [Tryz.f61]) <| SW.seqR fun K0 hK0 => R.op rfl (a_box (v := (.agg (cTerm p_0))) rfl rfl fun a0 σ0 n0 s0 hF0 => ?_)
 have lo0 := F_0.lo1 n0
 have F0 := F_0.andThen hF0 Lo.nil
 refine sn rfl <| R.done (hK0 _ _ (SW.seqR fun K1 hK1 => R.op rfl (a_alloc ti3 rfl fun a1 σ1 n1 s1 hF1 => ?_)))
 have ne0 := ne_new n1 s0
 have lo2 := F0.lo1 n1
 have s2 := hF1.keep s0 (by simp)
 have F1 := F0.andThen hF1 Lo.nil
 refine R.op rfl (a_store (cs' := [(I 0)]) ti3 rfl rfl s1 rfl (nb rfl) rfl rfl fun σ2 s3 hF2 => ?_)
 have s4 := hF2.keep s2 (m1 ne0)
 have F2 := F1.andThen hF2 lo2
 refine R.done (hK1 _ _ (SW.seqR fun K2 hK2 => ld (v := (.agg (cTerm p_0))) ti25 rfl s4 rfl ?_))
 obtain ⟨z0, hr0, hM⟩ := bd hM
 refine cl rfl (oc rfl (oc rfl (oc rfl on))) (AC.go (r_i_scan f p_0 1 a1 0 z0 hr0 _ s3) (LeL.refl _) (StLe.refl _) fun v_ σ3 hp_ => ?_)
 obtain ⟨rfl, s5, hF3⟩ := hp_
 have s6 := hF3.keep s4 (m1 ne0)
 have F3 := F2.andThen hF3 lo2
 refine sn rfl <| R.done (hK2 _ _ (SW.ret ?_))
 obtain rfl := si hM
 exact ret_of (rc rfl rn) (.bool z0.1) σ_0 (Le.refl _) F3.back ⟨rfl, rfl⟩

def M_i_OpLevel (f : Nat) (p_0 : ByteArray) : Option (Int × Bool) :=
 jn (fun (v0 : Bool) => (
 bif v0 then (
 some (3, false)
 ) else (
 jn (fun (v1 : Bool) => (
 bif v1 then (
 some (2, true)
 ) else (
 jn (fun (v2 : Bool) => (
 bif v2 then (
 some (1, true)
 ) else (
 some (0, false)
 )
 )) fun J0 => (
 bif decide (p_0 = (⟨#[42]⟩ : ByteArray)) then (
 J0 (decide (p_0 = (⟨#[42]⟩ : ByteArray)))
 ) else (
 bif decide (p_0 = (⟨#[47, 47]⟩ : ByteArray)) then (
 J0 (decide (p_0 = (⟨#[47, 47]⟩ : ByteArray)))
 ) else (
 J0 (decide (p_0 = (⟨#[109, 111, 100]⟩ : ByteArray)))
 )
 )
 )
 )
 )) fun J1 => (
 bif decide (p_0 = (⟨#[43]⟩ : ByteArray)) then (
 J1 (decide (p_0 = (⟨#[43]⟩ : ByteArray)))
 ) else (
 J1 (decide (p_0 = (⟨#[45]⟩ : ByteArray)))
 )
 )
 )
 )) fun J2 => (
 bif decide (p_0 = (⟨#[61]⟩ : ByteArray)) then (
 J2 (decide (p_0 = (⟨#[61]⟩ : ByteArray)))
 ) else (
 bif decide (p_0 = (⟨#[92, 61]⟩ : ByteArray)) then (
 J2 (decide (p_0 = (⟨#[92, 61]⟩ : ByteArray)))
 ) else (
 bif decide (p_0 = (⟨#[61, 61]⟩ : ByteArray)) then (
 J2 (decide (p_0 = (⟨#[61, 61]⟩ : ByteArray)))
 ) else (
 bif decide (p_0 = (⟨#[60]⟩ : ByteArray)) then (
 J2 (decide (p_0 = (⟨#[60]⟩ : ByteArray)))
 ) else (
 bif decide (p_0 = (⟨#[62]⟩ : ByteArray)) then (
 J2 (decide (p_0 = (⟨#[62]⟩ : ByteArray)))
 ) else (
 bif decide (p_0 = (⟨#[61, 60]⟩ : ByteArray)) then (
 J2 (decide (p_0 = (⟨#[61, 60]⟩ : ByteArray)))
 ) else (
 bif decide (p_0 = (⟨#[62, 61]⟩ : ByteArray)) then (
 J2 (decide (p_0 = (⟨#[62, 61]⟩ : ByteArray)))
 ) else (
 bif decide (p_0 = (⟨#[61, 58, 61]⟩ : ByteArray)) then (
 J2 (decide (p_0 = (⟨#[61, 58, 61]⟩ : ByteArray)))
 ) else (
 J2 (decide (p_0 = (⟨#[105, 115]⟩ : ByteArray)))
 )
 )
 )
 )
 )
 )
 )
 )
 )

theorem r_i_OpLevel (f : Nat) (p_0 : ByteArray) (r : Int × Bool) (hM : M_i_OpLevel f p_0 = some r) (σ_0 : St) : AC Tryz.prog 140 [(.str p_0)] σ_0 (fun v s => v = (.tup [(I r.1), (.bool r.2)]) ∧ s = σ_0) := by
 have F_0 := Fr.refl σ_0 []
 unfold M_i_OpLevel at hM
 refine AC.of_body Tryz.func140 rfl rfl (by rfl) (by simp [Tryz.f140]) <| SW.seqR fun K0 hK0 => sn rfl <| sn rfl <| R.done (hK0 _ _ (SW.seq (SW.seqR fun K1 hK1 => mv rfl (R.done (hK1 _ _ (SW.block (SW.seqK fun K2 hK2 => ?_)))))))
 obtain ⟨J2, eJ0, hM⟩ := jn_elim hM
 have hJ0 : ∀ (v0 : Bool) (env0 : Env) (σ0 : St), Fr σ_0 σ0 [] → env0.get 4 = some (.str p_0) → env0.get 5 = some (.bool v0) → J2 v0 = some r → K2 env0 σ0 := by
  intro v0 env0 σ0 F0 h0 h1 hM
  subst eJ0
  refine hK2 _ _ <| SW.cond h1 (fun hb0 => ?_) (fun hb0 => ?_)
  · have hM := cT hb0 hM
    refine SW.seqR fun K3 hK3 => sn rfl <| sn rfl <| R.done (hK3 _ _ (SW.ret (Qb (Qt ?_))))
    obtain rfl := si hM
    exact ret_of (rc rfl (rc rfl rn)) (.tup [(I 3), (.bool false)]) σ_0 (Le.refl _) F0.back ⟨rfl, rfl⟩
  · have hM := cF hb0 hM
    refine SW.seqK fun K4 hK4 => ?_
    obtain ⟨J1, eJ1, hM⟩ := jn_elim hM
    have hJ1 : ∀ (v1 : Bool) (env1 : Env) (σ1 : St), Fr σ_0 σ1 [] → env1.get 4 = some (.str p_0) → env1.get 15 = some (.bool v1) → J1 v1 = some r → K4 env1 σ1 := by
     intro v1 env1 σ1 F1 h2 h3 hM
     subst eJ1
     refine hK4 _ _ <| SW.cond h3 (fun hb1 => ?_) (fun hb1 => ?_)
     · have hM := cT hb1 hM
       refine SW.seqR fun K5 hK5 => sn rfl <| sn rfl <| R.done (hK5 _ _ (SW.ret (Qb (Qt ?_))))
       obtain rfl := si hM
       exact ret_of (rc rfl (rc rfl rn)) (.tup [(I 2), (.bool true)]) σ_0 (Le.refl _) F1.back ⟨rfl, rfl⟩
     · have hM := cF hb1 hM
       refine SW.seqK fun K6 hK6 => ?_
       obtain ⟨J0, eJ2, hM⟩ := jn_elim hM
       have hJ2 : ∀ (v2 : Bool) (env2 : Env) (σ2 : St), Fr σ_0 σ2 [] → env2.get 18 = some (.bool v2) → J0 v2 = some r → K6 env2 σ2 := by
        intro v2 env2 σ2 F2 h4 hM
        subst eJ2
        refine hK6 _ _ <| SW.cond h4 (fun hb2 => ?_) (fun hb2 => ?_)
        · have hM := cT hb2 hM
          refine SW.seqR fun K7 hK7 => sn rfl <| sn rfl <| R.done (hK7 _ _ (SW.ret (Qb (Qt ?_))))
          obtain rfl := si hM
          exact ret_of (rc rfl (rc rfl rn)) (.tup [(I 1), (.bool true)]) σ_0 (Le.refl _) F2.back ⟨rfl, rfl⟩
        · have hM := cF hb2 hM
          refine SW.skip <| SW.seqR fun K8 hK8 => sn rfl <| sn rfl <| R.done (hK8 _ _ (SW.ret ?_))
          obtain rfl := si hM
          exact ret_of (rc rfl (rc rfl rn)) (.tup [(I 0), (.bool false)]) σ_0 (Le.refl _) F2.back ⟨rfl, rfl⟩
       clear eJ2
       refine SW.seqR fun K9 hK9 => sr h2 rfl rfl <| sn rfl <| R.done (hK9 _ _ (SW.cond rfl (fun hb3 => ?_) (fun hb3 => ?_)))
       · have hM := cT hb3 hM
         refine SW.skip ?_
         exact hJ2 (decide (p_0 = (⟨#[42]⟩ : ByteArray))) _ _ F1 rfl hM
       · have hM := cF hb3 hM
         refine SW.seqR fun Ka hKa => sr h2 rfl rfl <| sn rfl <| R.done (hKa _ _ (SW.cond rfl (fun hb4 => ?_) (fun hb4 => ?_)))
         · have hM := cT hb4 hM
           refine SW.skip ?_
           exact hJ2 (decide (p_0 = (⟨#[47, 47]⟩ : ByteArray))) _ _ F1 rfl hM
         · have hM := cF hb4 hM
           refine SW.region <| sr h2 rfl rfl <| sn rfl <| R.done ?_
           exact hJ2 (decide (p_0 = (⟨#[109, 111, 100]⟩ : ByteArray))) _ _ F1 rfl hM
    clear eJ1
    refine SW.seqR fun Kb hKb => sr h0 rfl rfl <| sn rfl <| R.done (hKb _ _ (SW.cond rfl (fun hb5 => ?_) (fun hb5 => ?_)))
    · have hM := cT hb5 hM
      refine SW.skip ?_
      exact hJ1 (decide (p_0 = (⟨#[43]⟩ : ByteArray))) _ _ F0 h0 rfl hM
    · have hM := cF hb5 hM
      refine SW.region <| sr h0 rfl rfl <| sn rfl <| R.done ?_
      exact hJ1 (decide (p_0 = (⟨#[45]⟩ : ByteArray))) _ _ F0 h0 rfl hM
 clear eJ0
 refine SW.seqR fun Kc hKc => sr rfl rfl rfl <| sn rfl <| R.done (hKc _ _ (SW.cond rfl (fun hb6 => ?_) (fun hb6 => ?_)))
 · have hM := cT hb6 hM
   refine SW.skip ?_
   exact hJ0 (decide (p_0 = (⟨#[61]⟩ : ByteArray))) _ _ F_0 rfl rfl hM
 · have hM := cF hb6 hM
   refine SW.seqR fun Kd hKd => sr rfl rfl rfl <| sn rfl <| R.done (hKd _ _ (SW.cond rfl (fun hb7 => ?_) (fun hb7 => ?_)))
   · have hM := cT hb7 hM
     refine SW.skip ?_
     exact hJ0 (decide (p_0 = (⟨#[92, 61]⟩ : ByteArray))) _ _ F_0 rfl rfl hM
   · have hM := cF hb7 hM
     refine SW.seqR fun Ke hKe => sr rfl rfl rfl <| sn rfl <| R.done (hKe _ _ (SW.cond rfl (fun hb8 => ?_) (fun hb8 => ?_)))
     · have hM := cT hb8 hM
       refine SW.skip ?_
       exact hJ0 (decide (p_0 = (⟨#[61, 61]⟩ : ByteArray))) _ _ F_0 rfl rfl hM
     · have hM := cF hb8 hM
       refine SW.seqR fun Kf hKf => sr rfl rfl rfl <| sn rfl <| R.done (hKf _ _ (SW.cond rfl (fun hb9 => ?_) (fun hb9 => ?_)))
       · have hM := cT hb9 hM
         refine SW.skip ?_
         exact hJ0 (decide (p_0 = (⟨#[60]⟩ : ByteArray))) _ _ F_0 rfl rfl hM
       · have hM := cF hb9 hM
         refine SW.seqR fun Kg hKg => sr rfl rfl rfl <| sn rfl <| R.done (hKg _ _ (SW.cond rfl (fun hba => ?_) (fun hba => ?_)))
         · have hM := cT hba hM
           refine SW.skip ?_
           exact hJ0 (decide (p_0 = (⟨#[62]⟩ : ByteArray))) _ _ F_0 rfl rfl hM
         · have hM := cF hba hM
           refine SW.seqR fun Kh hKh => sr rfl rfl rfl <| sn rfl <| R.done (hKh _ _ (SW.cond rfl (fun hbb => ?_) (fun hbb => ?_)))
           · have hM := cT hbb hM
             refine SW.skip ?_
             exact hJ0 (decide (p_0 = (⟨#[61, 60]⟩ : ByteArray))) _ _ F_0 rfl rfl hM
           · have hM := cF hbb hM
             refine SW.seqR fun Ki hKi => sr rfl rfl rfl <| sn rfl <| R.done (hKi _ _ (SW.cond rfl (fun hbc => ?_) (fun hbc => ?_)))
             · have hM := cT hbc hM
               refine SW.skip ?_
               exact hJ0 (decide (p_0 = (⟨#[62, 61]⟩ : ByteArray))) _ _ F_0 rfl rfl hM
             · have hM := cF hbc hM
               refine SW.seqR fun Kj hKj => sr rfl rfl rfl <| sn rfl <| R.done (hKj _ _ (SW.cond rfl (fun hbd => ?_) (fun hbd => ?_)))
               · have hM := cT hbd hM
                 refine SW.skip ?_
                 exact hJ0 (decide (p_0 = (⟨#[61, 58, 61]⟩ : ByteArray))) _ _ F_0 rfl rfl hM
               · have hM := cF hbd hM
                 refine SW.region <| sr rfl rfl rfl <| sn rfl <| R.done ?_
                 exact hJ0 (decide (p_0 = (⟨#[105, 115]⟩ : ByteArray))) _ _ F_0 rfl rfl hM

def M_i_isOp (f : Nat) (p_0 : ByteArray) : Option Bool :=
 Option.bind (M_i_OpLevel f p_0) fun z0 =>
 some (decide (0 < z0.1))

theorem r_i_isOp (f : Nat) (p_0 : ByteArray) (r : Bool) (hM : M_i_isOp f p_0 = some r) (σ_0 : St) : AC Tryz.prog 102 [(.str p_0)] σ_0 (fun v s => v = (.bool r) ∧ s = σ_0) := by
 have F_0 := Fr.refl σ_0 []
 unfold M_i_isOp at hM
 refine AC.of_body Tryz.func102 rfl rfl (by rfl) (by simp [Tryz.f102]) <| SW.seqR fun K0 hK0 => sn rfl <| R.done (hK0 _ _ (SW.seqR fun K1 hK1 => mv rfl ?_))
 obtain ⟨z0, hr0, hM⟩ := bd hM
 refine cp (r_i_OpLevel f p_0 z0 hr0 _) rfl (oc rfl on) (LeL.refl _) <| mv rfl <| ex rfl rfl <| ex rfl rfl <| sn rfl <| sn rfl <| R.done (hK1 _ _ (SW.seqR fun K2 hK2 => mv rfl (it rfl rfl rfl (sn rfl (R.done (hK2 _ _ (SW.ret ?_)))))))
 obtain rfl := si hM
 exact ret_of (rc rfl rn) (.bool (decide (0 < z0.1))) σ_0 (Le.refl _) F_0.back ⟨rfl, rfl⟩

def M_i_IsBuiltin (f : Nat) (p_0 : ByteArray) (p_1 : Int) : Option Bool :=
 jn (fun (v0 : Bool) => (
 bif v0 then (
 some ((p_1 == 2))
 ) else (
 jn (fun (v1 : Bool) => (
 bif v1 then (
 some ((p_1 == 0))
 ) else (
 jn (fun (v2 : Bool) => (
 bif v2 then (
 some ((p_1 == 1))
 ) else (
 bif decide (p_0 = (⟨#[97, 114, 103]⟩ : ByteArray)) then (
 some ((p_1 == 3))
 ) else (
 some (false)
 )
 )
 )) fun J0 => (
 bif decide (p_0 = (⟨#[118, 97, 114]⟩ : ByteArray)) then (
 J0 (decide (p_0 = (⟨#[118, 97, 114]⟩ : ByteArray)))
 ) else (
 bif decide (p_0 = (⟨#[110, 111, 110, 118, 97, 114]⟩ : ByteArray)) then (
 J0 (decide (p_0 = (⟨#[110, 111, 110, 118, 97, 114]⟩ : ByteArray)))
 ) else (
 bif decide (p_0 = (⟨#[97, 116, 111, 109]⟩ : ByteArray)) then (
 J0 (decide (p_0 = (⟨#[97, 116, 111, 109]⟩ : ByteArray)))
 ) else (
 J0 (decide (p_0 = (⟨#[105, 110, 116]⟩ : ByteArray)))
 )
 )
 )
 )
 )
 )) fun J1 => (
 bif decide (p_0 = (⟨#[116, 114, 117, 101]⟩ : ByteArray)) then (
 J1 (decide (p_0 = (⟨#[116, 114, 117, 101]⟩ : ByteArray)))
 ) else (
 J1 (decide (p_0 = (⟨#[102, 97, 105, 108]⟩ : ByteArray)))
 )
 )
 )
 )) fun J2 => (
 bif decide (p_0 = (⟨#[61]⟩ : ByteArray)) then (
 J2 (decide (p_0 = (⟨#[61]⟩ : ByteArray)))
 ) else (
 bif decide (p_0 = (⟨#[92, 61]⟩ : ByteArray)) then (
 J2 (decide (p_0 = (⟨#[92, 61]⟩ : ByteArray)))
 ) else (
 bif decide (p_0 = (⟨#[61, 61]⟩ : ByteArray)) then (
 J2 (decide (p_0 = (⟨#[61, 61]⟩ : ByteArray)))
 ) else (
 bif decide (p_0 = (⟨#[60]⟩ : ByteArray)) then (
 J2 (decide (p_0 = (⟨#[60]⟩ : ByteArray)))
 ) else (
 bif decide (p_0 = (⟨#[62]⟩ : ByteArray)) then (
 J2 (decide (p_0 = (⟨#[62]⟩ : ByteArray)))
 ) else (
 bif decide (p_0 = (⟨#[61, 60]⟩ : ByteArray)) then (
 J2 (decide (p_0 = (⟨#[61, 60]⟩ : ByteArray)))
 ) else (
 bif decide (p_0 = (⟨#[62, 61]⟩ : ByteArray)) then (
 J2 (decide (p_0 = (⟨#[62, 61]⟩ : ByteArray)))
 ) else (
 bif decide (p_0 = (⟨#[61, 58, 61]⟩ : ByteArray)) then (
 J2 (decide (p_0 = (⟨#[61, 58, 61]⟩ : ByteArray)))
 ) else (
 J2 (decide (p_0 = (⟨#[105, 115]⟩ : ByteArray)))
 )
 )
 )
 )
 )
 )
 )
 )
 )

theorem r_i_IsBuiltin (f : Nat) (p_0 : ByteArray) (p_1 : Int) (r : Bool) (hM : M_i_IsBuiltin f p_0 p_1 = some r) (σ_0 : St) : AC Tryz.prog 141 [(.str p_0), (I p_1)] σ_0 (fun v s => v = (.bool r) ∧ s = σ_0) := by
 have F_0 := Fr.refl σ_0 []
 unfold M_i_IsBuiltin at hM
 refine AC.of_body Tryz.func141 rfl rfl (by rfl) (by simp [Tryz.f141]) <| SW.seqR fun K0 hK0 => sn rfl <| R.done (hK0 _ _ (SW.seq (SW.seqR fun K1 hK1 => mv rfl (R.done (hK1 _ _ (SW.block (SW.seqK fun K2 hK2 => ?_)))))))
 obtain ⟨J2, eJ0, hM⟩ := jn_elim hM
 have hJ0 : ∀ (v0 : Bool) (env0 : Env) (σ0 : St), Fr σ_0 σ0 [] → env0.get 1 = some (I p_1) → env0.get 5 = some (.str p_0) → env0.get 6 = some (.bool v0) → J2 v0 = some r → K2 env0 σ0 := by
  intro v0 env0 σ0 F0 h0 h1 h2 hM
  subst eJ0
  refine hK2 _ _ <| SW.cond h2 (fun hb0 => ?_) (fun hb0 => ?_)
  · have hM := cT hb0 hM
    refine SW.seqR fun K3 hK3 => mv h0 <| it rfl rfl rfl <| sn rfl <| R.done (hK3 _ _ (SW.ret (Qb (Qt ?_))))
    obtain rfl := si hM
    exact ret_of (rc rfl rn) (.bool (p_1 == 2)) σ_0 (Le.refl _) F0.back ⟨rfl, rfl⟩
  · have hM := cF hb0 hM
    refine SW.seqK fun K4 hK4 => ?_
    obtain ⟨J1, eJ1, hM⟩ := jn_elim hM
    have hJ1 : ∀ (v1 : Bool) (env1 : Env) (σ1 : St), Fr σ_0 σ1 [] → env1.get 1 = some (I p_1) → env1.get 5 = some (.str p_0) → env1.get 18 = some (.bool v1) → J1 v1 = some r → K4 env1 σ1 := by
     intro v1 env1 σ1 F1 h3 h4 h5 hM
     subst eJ1
     refine hK4 _ _ <| SW.cond h5 (fun hb1 => ?_) (fun hb1 => ?_)
     · have hM := cT hb1 hM
       refine SW.seqR fun K5 hK5 => mv h3 <| it rfl rfl rfl <| sn rfl <| R.done (hK5 _ _ (SW.ret (Qb (Qt ?_))))
       obtain rfl := si hM
       exact ret_of (rc rfl rn) (.bool (p_1 == 0)) σ_0 (Le.refl _) F1.back ⟨rfl, rfl⟩
     · have hM := cF hb1 hM
       refine SW.seqK fun K6 hK6 => ?_
       obtain ⟨J0, eJ2, hM⟩ := jn_elim hM
       have hJ2 : ∀ (v2 : Bool) (env2 : Env) (σ2 : St), Fr σ_0 σ2 [] → env2.get 1 = some (I p_1) → env2.get 5 = some (.str p_0) → env2.get 23 = some (.bool v2) → J0 v2 = some r → K6 env2 σ2 := by
        intro v2 env2 σ2 F2 h6 h7 h8 hM
        subst eJ2
        refine hK6 _ _ <| SW.cond h8 (fun hb2 => ?_) (fun hb2 => ?_)
        · have hM := cT hb2 hM
          refine SW.seqR fun K7 hK7 => mv h6 <| it rfl rfl rfl <| sn rfl <| R.done (hK7 _ _ (SW.ret (Qb (Qt ?_))))
          obtain rfl := si hM
          exact ret_of (rc rfl rn) (.bool (p_1 == 1)) σ_0 (Le.refl _) F2.back ⟨rfl, rfl⟩
        · have hM := cF hb2 hM
          refine SW.seqR fun K8 hK8 => sr h7 rfl rfl <| sn rfl <| R.done (hK8 _ _ (SW.cond rfl (fun hb3 => ?_) (fun hb3 => ?_)))
          · have hM := cT hb3 hM
            refine SW.seqR fun K9 hK9 => mv h6 <| it rfl rfl rfl <| sn rfl <| R.done (hK9 _ _ (SW.ret (Qb (Qt ?_))))
            obtain rfl := si hM
            exact ret_of (rc rfl rn) (.bool (p_1 == 3)) σ_0 (Le.refl _) F2.back ⟨rfl, rfl⟩
          · have hM := cF hb3 hM
            refine SW.skip <| SW.seqR fun Ka hKa => sn rfl <| R.done (hKa _ _ (SW.ret ?_))
            obtain rfl := si hM
            exact ret_of (rc rfl rn) (.bool false) σ_0 (Le.refl _) F2.back ⟨rfl, rfl⟩
       clear eJ2
       refine SW.seqR fun Kb hKb => sr h4 rfl rfl <| sn rfl <| R.done (hKb _ _ (SW.cond rfl (fun hb4 => ?_) (fun hb4 => ?_)))
       · have hM := cT hb4 hM
         refine SW.skip ?_
         exact hJ2 (decide (p_0 = (⟨#[118, 97, 114]⟩ : ByteArray))) _ _ F1 h3 h4 rfl hM
       · have hM := cF hb4 hM
         refine SW.seqR fun Kc hKc => sr h4 rfl rfl <| sn rfl <| R.done (hKc _ _ (SW.cond rfl (fun hb5 => ?_) (fun hb5 => ?_)))
         · have hM := cT hb5 hM
           refine SW.skip ?_
           exact hJ2 (decide (p_0 = (⟨#[110, 111, 110, 118, 97, 114]⟩ : ByteArray))) _ _ F1 h3 h4 rfl hM
         · have hM := cF hb5 hM
           refine SW.seqR fun Kd hKd => sr h4 rfl rfl <| sn rfl <| R.done (hKd _ _ (SW.cond rfl (fun hb6 => ?_) (fun hb6 => ?_)))
           · have hM := cT hb6 hM
             refine SW.skip ?_
             exact hJ2 (decide (p_0 = (⟨#[97, 116, 111, 109]⟩ : ByteArray))) _ _ F1 h3 h4 rfl hM
           · have hM := cF hb6 hM
             refine SW.region <| sr h4 rfl rfl <| sn rfl <| R.done ?_
             exact hJ2 (decide (p_0 = (⟨#[105, 110, 116]⟩ : ByteArray))) _ _ F1 h3 h4 rfl hM
    clear eJ1
    refine SW.seqR fun Ke hKe => sr h1 rfl rfl <| sn rfl <| R.done (hKe _ _ (SW.cond rfl (fun hb7 => ?_) (fun hb7 => ?_)))
    · have hM := cT hb7 hM
      refine SW.skip ?_
      exact hJ1 (decide (p_0 = (⟨#[116, 114, 117, 101]⟩ : ByteArray))) _ _ F0 h0 h1 rfl hM
    · have hM := cF hb7 hM
      refine SW.region <| sr h1 rfl rfl <| sn rfl <| R.done ?_
      exact hJ1 (decide (p_0 = (⟨#[102, 97, 105, 108]⟩ : ByteArray))) _ _ F0 h0 h1 rfl hM
 clear eJ0
 refine SW.seqR fun Kf hKf => sr rfl rfl rfl <| sn rfl <| R.done (hKf _ _ (SW.cond rfl (fun hb8 => ?_) (fun hb8 => ?_)))
 · have hM := cT hb8 hM
   refine SW.skip ?_
   exact hJ0 (decide (p_0 = (⟨#[61]⟩ : ByteArray))) _ _ F_0 rfl rfl rfl hM
 · have hM := cF hb8 hM
   refine SW.seqR fun Kg hKg => sr rfl rfl rfl <| sn rfl <| R.done (hKg _ _ (SW.cond rfl (fun hb9 => ?_) (fun hb9 => ?_)))
   · have hM := cT hb9 hM
     refine SW.skip ?_
     exact hJ0 (decide (p_0 = (⟨#[92, 61]⟩ : ByteArray))) _ _ F_0 rfl rfl rfl hM
   · have hM := cF hb9 hM
     refine SW.seqR fun Kh hKh => sr rfl rfl rfl <| sn rfl <| R.done (hKh _ _ (SW.cond rfl (fun hba => ?_) (fun hba => ?_)))
     · have hM := cT hba hM
       refine SW.skip ?_
       exact hJ0 (decide (p_0 = (⟨#[61, 61]⟩ : ByteArray))) _ _ F_0 rfl rfl rfl hM
     · have hM := cF hba hM
       refine SW.seqR fun Ki hKi => sr rfl rfl rfl <| sn rfl <| R.done (hKi _ _ (SW.cond rfl (fun hbb => ?_) (fun hbb => ?_)))
       · have hM := cT hbb hM
         refine SW.skip ?_
         exact hJ0 (decide (p_0 = (⟨#[60]⟩ : ByteArray))) _ _ F_0 rfl rfl rfl hM
       · have hM := cF hbb hM
         refine SW.seqR fun Kj hKj => sr rfl rfl rfl <| sn rfl <| R.done (hKj _ _ (SW.cond rfl (fun hbc => ?_) (fun hbc => ?_)))
         · have hM := cT hbc hM
           refine SW.skip ?_
           exact hJ0 (decide (p_0 = (⟨#[62]⟩ : ByteArray))) _ _ F_0 rfl rfl rfl hM
         · have hM := cF hbc hM
           refine SW.seqR fun Kk hKk => sr rfl rfl rfl <| sn rfl <| R.done (hKk _ _ (SW.cond rfl (fun hbd => ?_) (fun hbd => ?_)))
           · have hM := cT hbd hM
             refine SW.skip ?_
             exact hJ0 (decide (p_0 = (⟨#[61, 60]⟩ : ByteArray))) _ _ F_0 rfl rfl rfl hM
           · have hM := cF hbd hM
             refine SW.seqR fun Kl hKl => sr rfl rfl rfl <| sn rfl <| R.done (hKl _ _ (SW.cond rfl (fun hbe => ?_) (fun hbe => ?_)))
             · have hM := cT hbe hM
               refine SW.skip ?_
               exact hJ0 (decide (p_0 = (⟨#[62, 61]⟩ : ByteArray))) _ _ F_0 rfl rfl rfl hM
             · have hM := cF hbe hM
               refine SW.seqR fun Km hKm => sr rfl rfl rfl <| sn rfl <| R.done (hKm _ _ (SW.cond rfl (fun hbf => ?_) (fun hbf => ?_)))
               · have hM := cT hbf hM
                 refine SW.skip ?_
                 exact hJ0 (decide (p_0 = (⟨#[61, 58, 61]⟩ : ByteArray))) _ _ F_0 rfl rfl rfl hM
               · have hM := cF hbf hM
                 refine SW.region <| sr rfl rfl rfl <| sn rfl <| R.done ?_
                 exact hJ0 (decide (p_0 = (⟨#[105, 115]⟩ : ByteArray))) _ _ F_0 rfl rfl rfl hM

def M_i_isBuilt (f : Nat) (p_0 : STerm) : Option Bool :=
 jn (fun (v0 : Bool) => (
 some (v0)
 )) fun J0 => (
 bif (p_0.kind == 3) then (
 Option.bind (M_i_IsBuiltin f p_0.name (p_0.kids.length : Int)) fun z0 =>
 J0 z0
 ) else (
 J0 false
 )
 )

theorem r_i_isBuilt (f : Nat) (p_0 : STerm) (r : Bool) (hM : M_i_isBuilt f p_0 = some r) (σ_0 : St) : AC Tryz.prog 103 [(.agg (cTerm p_0))] σ_0 (fun v s => v = (.bool r) ∧ s = σ_0) := by
 have F_0 := Fr.refl σ_0 []
 unfold M_i_isBuilt at hM
 refine AC.of_body Tryz.func103 rfl rfl (by rfl) (by simp [Tryz.f103]) <| SW.seqR fun K0 hK0 => R.op rfl (a_box (v := (.agg (cTerm p_0))) rfl rfl fun a0 σ0 n0 s0 hF0 => ?_)
 have lo0 := F_0.lo1 n0
 have F0 := F_0.andThen hF0 Lo.nil
 refine sn rfl <| R.done (hK0 _ _ (SW.seqK fun K1 hK1 => ?_))
 obtain ⟨J0, eJ0, hM⟩ := jn_elim hM
 have hJ0 : ∀ (v0 : Bool) (env0 : Env) (σ1 : St), Fr σ_0 σ1 [] → env0.get 2 = some (.bool v0) → σ1 a0 = some (.cells (cTerm p_0)) → J0 v0 = some r → K1 env0 σ1 := by
  intro v0 env0 σ1 F1 h0 s1 hM
  subst eJ0
  refine hK1 _ _ <| SW.ret ?_
  obtain rfl := si hM
  exact ret_of (rc h0 rn) (.bool v0) σ_0 (Le.refl _) F1.back ⟨rfl, rfl⟩
 clear eJ0
 refine SW.region <| fp ti25 rfl rfl rfl (by decide) <| ld ti3 rfl s0 rfl <| it rfl rfl rfl <| mv rfl ?_
 rcases bcase (p_0.kind == 3) with hb0 | hb0
 · have hM := cT hb0 hM
   refine R.go (p_0.kind == 3) rfl hb0 (a_fieldPtr ti25 rfl rfl rfl (by decide) (R.go (p_0.kind == 3) rfl hb0 (a_loadPtr ti9 rfl s0 rfl (R.go (p_0.kind == 3) rfl hb0 (a_fieldPtr ti25 rfl rfl rfl (by decide) (R.go (p_0.kind == 3) rfl hb0 (a_loadPtr ti23 rfl s0 rfl (R.go (p_0.kind == 3) rfl hb0 (a_lenImm ti23 rfl rfl (n := (p_0.kids.length : Int)) (by simp) ?_)))))))))
   obtain ⟨z0, hr0, hM⟩ := bd hM
   refine R.go (p_0.kind == 3) rfl hb0 (a_call (g := 141) rfl (oc rfl (oc rfl on)) (AC.goP (r_i_IsBuiltin f p_0.name (p_0.kids.length : Int) z0 hr0 _) (LeL.refl _) (R.op rfl (a_pickT rfl hb0 rfl (sn rfl (R.done ?_))))))
   exact hJ0 z0 _ _ F0 rfl s0 hM
 · have hM := cF hb0 hM
   refine R.not (p_0.kind == 3) rfl hb0 <| R.not (p_0.kind == 3) rfl hb0 <| R.not (p_0.kind == 3) rfl hb0 <| R.not (p_0.kind == 3) rfl hb0 <| R.not (p_0.kind == 3) rfl hb0 <| R.not (p_0.kind == 3) rfl hb0 <| R.op rfl (a_pickF rfl hb0 rfl (sn rfl (R.done ?_)))
   exact hJ0 false _ _ F0 rfl s0 hM

def M_i_isPlain (f : Nat) (p_0 : STerm) : Option Bool :=
 jn (fun (v0 : Bool) => (
 some (v0)
 )) fun J0 => (
 bif (p_0.kind == 3) then (
 Option.bind (M_i_isLetters f p_0.name) fun z0 =>
 bif z0 then (
 Option.bind (M_i_isOp f p_0.name) fun z1 =>
 bif (!z1) then (
 Option.bind (M_i_isBuilt f p_0) fun z2 =>
 J0 (!z2)
 ) else (
 J0 false
 )
 ) else (
 J0 false
 )
 ) else (
 J0 false
 )
 )

theorem r_i_isPlain (f : Nat) (p_0 : STerm) (r : Bool) (hM : M_i_isPlain f p_0 = some r) (σ_0 : St) : AC Tryz.prog 62 [(.agg (cTerm p_0))] σ_0 (fun v s => v = (.bool r) ∧ s = σ_0) := by
 have F_0 := Fr.refl σ_0 []
 unfold M_i_isPlain at hM
 refine AC.of_body Tryz.func62 rfl rfl (by rfl) (by simp [Tryz.f62]) <| SW.seqR fun K0 hK0 => R.op rfl (a_box (v := (.agg (cTerm p_0))) rfl rfl fun a0 σ0 n0 s0 hF0 => ?_)
 have lo0 := F_0.lo1 n0
 have F0 := F_0.andThen hF0 Lo.nil
 refine sn rfl <| R.done (hK0 _ _ (SW.seqK fun K1 hK1 => ?_))
 obtain ⟨J0, eJ0, hM⟩ := jn_elim hM
 have hJ0 : ∀ (v0 : Bool) (env0 : Env) (σ1 : St), Fr σ_0 σ1 [] → env0.get 2 = some (.bool v0) → σ1 a0 = some (.cells (cTerm p_0)) → J0 v0 = some r → K1 env0 σ1 := by
  intro v0 env0 σ1 F1 h0 s1 hM
  subst eJ0
  refine hK1 _ _ <| SW.ret ?_
  obtain rfl := si hM
  exact ret_of (rc h0 rn) (.bool v0) σ_0 (Le.refl _) F1.back ⟨rfl, rfl⟩
 clear eJ0
 refine SW.region <| fp ti25 rfl rfl rfl (by decide) <| ld ti3 rfl s0 rfl <| it rfl rfl rfl <| mv rfl ?_
 rcases bcase (p_0.kind == 3) with hb0 | hb0
 · have hM := cT hb0 hM
   refine R.go (p_0.kind == 3) rfl hb0 (a_fieldPtr ti25 rfl rfl rfl (by decide) (R.go (p_0.kind == 3) rfl hb0 (a_loadPtr ti9 rfl s0 rfl ?_)))
   obtain ⟨z0, hr0, hM⟩ := bd hM
   refine R.go (p_0.kind == 3) rfl hb0 (a_call (g := 101) rfl (oc rfl on) (AC.goP (r_i_isLetters f p_0.name z0 hr0 _) (LeL.refl _) (R.op rfl (a_pickT rfl hb0 rfl (mv rfl ?_)))))
   rcases bcase z0 with hb1 | hb1
   · have hM := cT hb1 hM
     refine R.go z0 rfl hb1 (a_fieldPtr ti25 rfl rfl rfl (by decide) (R.go z0 rfl hb1 (a_loadPtr ti9 rfl s0 rfl ?_)))
     obtain ⟨z1, hr1, hM⟩ := bd hM
     refine R.go z0 rfl hb1 (a_call (g := 102) rfl (oc rfl on) (AC.goP (r_i_isOp f p_0.name z1 hr1 _) (LeL.refl _) (R.go z0 rfl hb1 (a_not rfl (R.op rfl (a_pickT rfl hb1 rfl (mv rfl ?_)))))))
     rcases bcase (!z1) with hb2 | hb2
     · have hM := cT hb2 hM
       refine R.go (!z1) rfl hb2 (a_loadPtr (v := (.agg (cTerm p_0))) ti25 rfl s0 rfl ?_)
       obtain ⟨z2, hr2, hM⟩ := bd hM
       refine R.go (!z1) rfl hb2 (a_call (g := 103) rfl (oc rfl on) (AC.goP (r_i_isBuilt f p_0 z2 hr2 _) (LeL.refl _) (R.go (!z1) rfl hb2 (a_not rfl (R.op rfl (a_pickT rfl hb2 rfl (sn rfl (R.done ?_))))))))
       exact hJ0 (!z2) _ _ F0 rfl s0 hM
     · have hM := cF hb2 hM
       refine R.not (!z1) rfl hb2 <| R.not (!z1) rfl hb2 <| R.not (!z1) rfl hb2 <| R.op rfl (a_pickF rfl hb2 rfl (sn rfl (R.done ?_)))
       exact hJ0 false _ _ F0 rfl s0 hM
   · have hM := cF hb1 hM
     refine R.not z0 rfl hb1 <| R.not z0 rfl hb1 <| R.not z0 rfl hb1 <| R.not z0 rfl hb1 <| R.op rfl (a_pickF rfl hb1 rfl (mv rfl (R.not false rfl rfl (R.not false rfl rfl (R.not false rfl rfl (R.op rfl (a_pickF rfl rfl rfl (sn rfl (R.done ?_)))))))))
     exact hJ0 false _ _ F0 rfl s0 hM
 · have hM := cF hb0 hM
   refine R.not (p_0.kind == 3) rfl hb0 <| R.not (p_0.kind == 3) rfl hb0 <| R.not (p_0.kind == 3) rfl hb0 <| R.op rfl (a_pickF rfl hb0 rfl (mv rfl (R.not false rfl rfl (R.not false rfl rfl (R.not false rfl rfl (R.not false rfl rfl (R.op rfl (a_pickF rfl rfl rfl (mv rfl (R.not false rfl rfl (R.not false rfl rfl (R.not false rfl rfl (R.op rfl (a_pickF rfl rfl rfl (sn rfl (R.done ?_))))))))))))))))
   exact hJ0 false _ _ F0 rfl s0 hM

def M_i_isAtom (f : Nat) (p_0 : STerm) : Option Bool :=
 jn (fun (v0 : Bool) => (
 some (v0)
 )) fun J0 => (
 bif (p_0.kind == 3) then (
 J0 ((p_0.kids.length : Int) == 0)
 ) else (
 J0 false
 )
 )

theorem r_i_isAtom (f : Nat) (p_0 : STerm) (r : Bool) (hM : M_i_isAtom f p_0 = some r) (σ_0 : St) : AC Tryz.prog 160 [(.agg (cTerm p_0))] σ_0 (fun v s => v = (.bool r) ∧ s = σ_0) := by
 have F_0 := Fr.refl σ_0 []
 unfold M_i_isAtom at hM
 refine AC.of_body Tryz.func160 rfl rfl (by rfl) (by simp [Tryz.f160]) <| SW.seqR fun K0 hK0 => R.op rfl (a_box (v := (.agg (cTerm p_0))) rfl rfl fun a0 σ0 n0 s0 hF0 => ?_)
 have lo0 := F_0.lo1 n0
 have F0 := F_0.andThen hF0 Lo.nil
 refine sn rfl <| R.done (hK0 _ _ (SW.seqK fun K1 hK1 => ?_))
 obtain ⟨J0, eJ0, hM⟩ := jn_elim hM
 have hJ0 : ∀ (v0 : Bool) (env0 : Env) (σ1 : St), Fr σ_0 σ1 [] → env0.get 2 = some (.bool v0) → σ1 a0 = some (.cells (cTerm p_0)) → J0 v0 = some r → K1 env0 σ1 := by
  intro v0 env0 σ1 F1 h0 s1 hM
  subst eJ0
  refine hK1 _ _ <| SW.ret ?_
  obtain rfl := si hM
  exact ret_of (rc h0 rn) (.bool v0) σ_0 (Le.refl _) F1.back ⟨rfl, rfl⟩
 clear eJ0
 refine SW.region <| fp ti25 rfl rfl rfl (by decide) <| ld ti3 rfl s0 rfl <| it rfl rfl rfl <| mv rfl ?_
 rcases bcase (p_0.kind == 3) with hb0 | hb0
 · have hM := cT hb0 hM
   refine R.go (p_0.kind == 3) rfl hb0 (a_fieldPtr ti25 rfl rfl rfl (by decide) (R.go (p_0.kind == 3) rfl hb0 (a_loadPtr ti23 rfl s0 rfl (R.go (p_0.kind == 3) rfl hb0 (a_lenImm ti23 rfl rfl (n := (p_0.kids.length : Int)) (by simp) (R.go (p_0.kind == 3) rfl hb0 (a_int rfl rfl rfl (R.op rfl (a_pickT rfl hb0 rfl (sn rfl (R.done ?_)))))))))))
   exact hJ0 ((p_0.kids.length : Int) == 0) _ _ F0 rfl s0 hM
 · have hM := cF hb0 hM
   refine R.not (p_0.kind == 3) rfl hb0 <| R.not (p_0.kind == 3) rfl hb0 <| R.not (p_0.kind == 3) rfl hb0 <| R.not (p_0.kind == 3) rfl hb0 <| R.op rfl (a_pickF rfl hb0 rfl (sn rfl (R.done ?_)))
   exact hJ0 false _ _ F0 rfl s0 hM

def M_i_isCut (f : Nat) (p_0 : STerm) : Option Bool :=
 jn (fun (v0 : Bool) => (
 some (v0)
 )) fun J0 => (
 Option.bind (M_i_isAtom f p_0) fun z0 =>
 bif z0 then (
 J0 (decide (p_0.name = (⟨#[33]⟩ : ByteArray)))
 ) else (
 J0 false
 )
 )

theorem r_i_isCut (f : Nat) (p_0 : STerm) (r : Bool) (hM : M_i_isCut f p_0 = some r) (σ_0 : St) : AC Tryz.prog 143 [(.agg (cTerm p_0))] σ_0 (fun v s => v = (.bool r) ∧ s = σ_0) := by
 have F_0 := Fr.refl σ_0 []
 unfold M_i_isCut at hM
 refine AC.of_body Tryz.func143 rfl rfl (by rfl) (by simp [Tryz.f143]) <| SW.seqR fun K0 hK0 => R.op rfl (a_box (v := (.agg (cTerm p_0))) rfl rfl fun a0 σ0 n0 s0 hF0 => ?_)
 have lo0 := F_0.lo1 n0
 have F0 := F_0.andThen hF0 Lo.nil
 refine sn rfl <| R.done (hK0 _ _ (SW.seqK fun K1 hK1 => ?_))
 obtain ⟨J0, eJ0, hM⟩ := jn_elim hM
 have hJ0 : ∀ (v0 : Bool) (env0 : Env) (σ1 : St), Fr σ_0 σ1 [] → env0.get 2 = some (.bool v0) → σ1 a0 = some (.cells (cTerm p_0)) → J0 v0 = some r → K1 env0 σ1 := by
  intro v0 env0 σ1 F1 h0 s1 hM
  subst eJ0
  refine hK1 _ _ <| SW.ret ?_
  obtain rfl := si hM
  exact ret_of (rc h0 rn) (.bool v0) σ_0 (Le.refl _) F1.back ⟨rfl, rfl⟩
 clear eJ0
 refine SW.region <| ld (v := (.agg (cTerm p_0))) ti25 rfl s0 rfl ?_
 obtain ⟨z0, hr0, hM⟩ := bd hM
 refine cp (r_i_isAtom f p_0 z0 hr0 _) rfl (oc rfl on) (LeL.refl _) <| mv rfl ?_
 rcases bcase z0 with hb0 | hb0
 · have hM := cT hb0 hM
   refine R.go z0 rfl hb0 (a_fieldPtr ti25 rfl rfl rfl (by decide) (R.go z0 rfl hb0 (a_loadPtr ti9 rfl s0 rfl (R.go z0 rfl hb0 (a_str rfl rfl rfl (R.op rfl (a_pickT rfl hb0 rfl (sn rfl (R.done ?_)))))))))
   exact hJ0 (decide (p_0.name = (⟨#[33]⟩ : ByteArray))) _ _ F0 rfl s0 hM
 · have hM := cF hb0 hM
   refine R.not z0 rfl hb0 <| R.not z0 rfl hb0 <| R.not z0 rfl hb0 <| R.op rfl (a_pickF rfl hb0 rfl (sn rfl (R.done ?_)))
   exact hJ0 false _ _ F0 rfl s0 hM

def M_i_GoalValid (f : Nat) (p_0 : STerm) : Option Bool :=
 jn (fun (v0 : Bool) => (
 some (v0)
 )) fun J0 => (
 Option.bind (M_i_TermValid f p_0) fun z0 =>
 bif z0 then (
 Option.bind (M_i_isPlain f p_0) fun z1 =>
 bif z1 then (
 J0 true
 ) else (
 Option.bind (M_i_isBuilt f p_0) fun z2 =>
 bif z2 then (
 J0 true
 ) else (
 Option.bind (M_i_isCut f p_0) fun z3 =>
 J0 z3
 )
 )
 ) else (
 J0 false
 )
 )

theorem r_i_GoalValid (f : Nat) (p_0 : STerm) (r : Bool) (hM : M_i_GoalValid f p_0 = some r) (σ_0 : St) : AC Tryz.prog 106 [(.agg (cTerm p_0))] σ_0 (fun v s => v = (.bool r) ∧ s = σ_0) := by
 have F_0 := Fr.refl σ_0 []
 unfold M_i_GoalValid at hM
 refine AC.of_body Tryz.func106 rfl rfl (by rfl) (by simp [Tryz.f106]) <| SW.seqR fun K0 hK0 => R.op rfl (a_box (v := (.agg (cTerm p_0))) rfl rfl fun a0 σ0 n0 s0 hF0 => ?_)
 have lo0 := F_0.lo1 n0
 have F0 := F_0.andThen hF0 Lo.nil
 refine sn rfl <| R.done (hK0 _ _ (SW.seqK fun K1 hK1 => ?_))
 obtain ⟨J0, eJ0, hM⟩ := jn_elim hM
 have hJ0 : ∀ (v0 : Bool) (env0 : Env) (σ1 : St), Fr σ_0 σ1 [] → env0.get 2 = some (.bool v0) → σ1 a0 = some (.cells (cTerm p_0)) → J0 v0 = some r → K1 env0 σ1 := by
  intro v0 env0 σ1 F1 h0 s1 hM
  subst eJ0
  refine hK1 _ _ <| SW.ret ?_
  obtain rfl := si hM
  exact ret_of (rc h0 rn) (.bool v0) σ_0 (Le.refl _) F1.back ⟨rfl, rfl⟩
 clear eJ0
 refine SW.region <| ld (v := (.agg (cTerm p_0))) ti25 rfl s0 rfl ?_
 obtain ⟨z0, hr0, hM⟩ := bd hM
 refine cp (r_i_TermValid f p_0 z0 hr0 _) rfl (oc rfl on) (LeL.refl _) <| mv rfl ?_
 rcases bcase z0 with hb0 | hb0
 · have hM := cT hb0 hM
   refine R.go z0 rfl hb0 (a_loadPtr (v := (.agg (cTerm p_0))) ti25 rfl s0 rfl ?_)
   obtain ⟨z1, hr1, hM⟩ := bd hM
   refine R.go z0 rfl hb0 (a_call (g := 62) rfl (oc rfl on) (AC.goP (r_i_isPlain f p_0 z1 hr1 _) (LeL.refl _) (R.go z0 rfl hb0 (a_move rfl ?_))))
   rcases bcase z1 with hb1 | hb1
   · have hM := cT hb1 hM
     refine R.notf z1 rfl hb1 <| R.notf z1 rfl hb1 <| R.go z0 rfl hb0 (a_pickT rfl hb1 rfl (R.go z0 rfl hb0 (a_move rfl (R.notf true rfl rfl (R.notf true rfl rfl (R.go z0 rfl hb0 (a_pickT rfl rfl rfl (R.op rfl (a_pickT rfl hb0 rfl (sn rfl (R.done ?_)))))))))))
     exact hJ0 true _ _ F0 rfl s0 hM
   · have hM := cF hb1 hM
     refine R.gof z1 rfl hb1 (a_loadPtr (v := (.agg (cTerm p_0))) ti25 rfl s0 rfl ?_)
     obtain ⟨z2, hr2, hM⟩ := bd hM
     refine R.gof z1 rfl hb1 (a_call (g := 103) rfl (oc rfl on) (AC.goP (r_i_isBuilt f p_0 z2 hr2 _) (LeL.refl _) (R.go z0 rfl hb0 (a_pickF rfl hb1 rfl (R.go z0 rfl hb0 (a_move rfl ?_))))))
     rcases bcase z2 with hb2 | hb2
     · have hM := cT hb2 hM
       refine R.notf z2 rfl hb2 <| R.notf z2 rfl hb2 <| R.go z0 rfl hb0 (a_pickT rfl hb2 rfl (R.op rfl (a_pickT rfl hb0 rfl (sn rfl (R.done ?_)))))
       exact hJ0 true _ _ F0 rfl s0 hM
     · have hM := cF hb2 hM
       refine R.gof z2 rfl hb2 (a_loadPtr (v := (.agg (cTerm p_0))) ti25 rfl s0 rfl ?_)
       obtain ⟨z3, hr3, hM⟩ := bd hM
       refine R.gof z2 rfl hb2 (a_call (g := 143) rfl (oc rfl on) (AC.goP (r_i_isCut f p_0 z3 hr3 _) (LeL.refl _) (R.go z0 rfl hb0 (a_pickF rfl hb2 rfl (R.op rfl (a_pickT rfl hb0 rfl (sn rfl (R.done ?_))))))))
       exact hJ0 z3 _ _ F0 rfl s0 hM
 · have hM := cF hb0 hM
   refine R.not z0 rfl hb0 <| R.not z0 rfl hb0 <| R.not z0 rfl hb0 <| R.no rfl <| R.no rfl <| R.not z0 rfl hb0 <| R.not z0 rfl hb0 <| R.no rfl <| R.no rfl <| R.not z0 rfl hb0 <| R.op rfl (a_pickF rfl hb0 rfl (sn rfl (R.done ?_)))
   exact hJ0 false _ _ F0 rfl s0 hM

def M_i_goalsValid_1 (f : Nat) (p_0 : STerm) : Option Bool :=
 Option.bind (M_i_GoalValid f p_0) fun z0 =>
 some ((!z0))

theorem r_i_goalsValid_1 (f : Nat) (p_0 : STerm) (r : Bool) (hM : M_i_goalsValid_1 f p_0 = some r) (σ_0 : St) : AC Tryz.prog 105 [(.agg (cTerm p_0))] σ_0 (fun v s => v = (.bool r) ∧ s = σ_0) := by
 have F_0 := Fr.refl σ_0 []
 unfold M_i_goalsValid_1 at hM
 refine AC.of_body Tryz.func105 rfl rfl (by rfl) (by simp [Tryz.f105]) <| SW.seqR fun K0 hK0 => R.op rfl (a_box (v := (.agg (cTerm p_0))) rfl rfl fun a0 σ0 n0 s0 hF0 => ?_)
 have lo0 := F_0.lo1 n0
 have F0 := F_0.andThen hF0 Lo.nil
 refine sn rfl <| R.done (hK0 _ _ (SW.seqR fun K1 hK1 => ld (v := (.agg (cTerm p_0))) ti25 rfl s0 rfl ?_))
 obtain ⟨z0, hr0, hM⟩ := bd hM
 refine cp (r_i_GoalValid f p_0 z0 hr0 _) rfl (oc rfl on) (LeL.refl _) <| no rfl <| sn rfl <| R.done (hK1 _ _ (SW.ret ?_))
 obtain rfl := si hM
 exact ret_of (rc rfl rn) (.bool (!z0)) σ_0 (Le.refl _) F0.back ⟨rfl, rfl⟩

def L_IndexFunc_Term__i_goalsValid_1_1 (f : Nat) (p_0 : (List STerm)) (J0 : Unit → Option Int) : Nat → Int → Option Int
 | 0, _ => none
 | n + 1, v0 =>
 bif decide (v0 < (p_0.length : Int)) then (
 bif decide (0 ≤ v0) then
 Option.bind (p_0[(v0 : Int).toNat]?) fun x0 =>
 Option.bind (M_i_goalsValid_1 f x0) fun z0 =>
 bif z0 then (
 some (v0)
 ) else (
 L_IndexFunc_Term__i_goalsValid_1_1 f p_0 J0 n (IntKind.wrap .i64 (v0 + 1))
 )
 else none
 ) else (
 J0 ()
 )

def M_IndexFunc_Term__i_goalsValid_1 (f : Nat) (p_0 : (List STerm)) : Option Int :=
 jn (fun (_ : Unit) => (
 some ((-1))
 )) fun J0 => (
 L_IndexFunc_Term__i_goalsValid_1_1 f p_0 J0 f 0
 )

theorem r_IndexFunc_Term__i_goalsValid_1 (f : Nat) (p_0 : (List STerm)) (tk_0 : Tk) (r : Int) (hM : M_IndexFunc_Term__i_goalsValid_1 f p_0 = some r) (σ_0 : St) : AC Tryz.prog 142 [(LTerm p_0 tk_0), (.fn 105 [])] σ_0 (fun v s => v = (I r) ∧ s = σ_0) := by
 have F_0 := Fr.refl σ_0 []
 unfold M_IndexFunc_Term__i_goalsValid_1 at hM
 refine AC.of_body Tryz.func142 rfl rfl (by rfl) (by simp [Tryz.f142]) <| SW.seqR fun K0 hK0 => sn rfl <| R.done (hK0 _ _ (SW.seqK fun K1 hK1 => ?_))
 obtain ⟨J0, eJ0, hM⟩ := jn_elim hM
 have hJ0 : ∀  (env0 : Env) (σ0 : St), Fr σ_0 σ0 [] → J0 () = some r → K1 env0 σ0 := by
  intro env0 σ0 F0 hM
  subst eJ0
  refine hK1 _ _ <| SW.seqR fun K2 hK2 => sn rfl <| R.done (hK2 _ _ (SW.ret ?_))
  obtain rfl := si hM
  exact ret_of (rc rfl rn) (I (-1)) σ_0 (Le.refl _) F0.back ⟨rfl, rfl⟩
 clear eJ0
 refine SW.seqR fun K3 hK3 => mv rfl <| R.op rfl (a_lenImm ti23 rfl rfl (n := (p_0.length : Int)) (by simp) (mv rfl (R.done (hK3 _ _ (SW.block (SW.loop (LW.ind (I := fun n0 env1 σ1 => ∃ (v0 : Int), Fr σ_0 σ1 [] ∧ env1.get 0 = some (LTerm p_0 tk_0) ∧ env1.get 1 = some (.fn 105 []) ∧ env1.get 7 = some (I (p_0.length : Int)) ∧ env1.get 8 = some (I v0) ∧ L_IndexFunc_Term__i_goalsValid_1_1 f p_0 J0 n0 v0 = some r) ?_ f _ _ ⟨0, F_0, rfl, rfl, rfl, rfl, hM⟩)))))))
 rintro n0 env1 σ1 ⟨v0, F1, h0, h1, h2, h3, hM⟩
 cases n0 with
 | zero => (rw [L_IndexFunc_Term__i_goalsValid_1_1] at hM; cases hM)
 | succ n0 =>
  rw [L_IndexFunc_Term__i_goalsValid_1_1] at hM
  refine SW.seqR fun K4 hK4 => it h3 h2 rfl <| R.done (hK4 _ _ (SW.seq (SW.cond rfl (fun hb0 => ?_) (fun hb0 => ?_))))
  · have hM := cT hb0 hM
    refine SW.skip <| SW.seq <| SW.block <| SW.seqR fun K5 hK5 => mv h3 <| sn rfl <| R.done (hK5 _ _ (SW.seqR fun K6 hK6 => mv h1 (mv h0 (mv rfl ?_))))
    obtain ⟨hg0, hM⟩ := gd hM
    obtain ⟨x0, hx0, hM⟩ := bd hM
    refine R.op rfl (a_idxImm (f := eTerm) (xs := p_0) (n := v0) (e := x0) (v := (.agg (cTerm x0))) ti23 rfl ti25 rfl rfl rfl (od hg0) hx0 (eTerm_eq x0) (li (v := (.agg (cTerm x0))) ti25 rfl rfl ?_))
    obtain ⟨z0, hr0, hM⟩ := bd hM
    refine cp (r_i_goalsValid_1 f x0 z0 hr0 _) rfl (oc rfl on) (LeL.refl _) <| R.done (hK6 _ _ (SW.cond rfl (fun hb1 => ?_) (fun hb1 => ?_)))
    · have hM := cT hb1 hM
      refine SW.seqR fun K7 hK7 => mv rfl <| sn rfl <| R.done (hK7 _ _ (SW.ret (Qb (Qt (Qt (Qb (Qt ?_)))))))
      obtain rfl := si hM
      exact ret_of (rc rfl rn) (I v0) σ_0 (Le.refl _) F1.back ⟨rfl, rfl⟩
    · have hM := cF hb1 hM
      refine SW.skip <| SW.region <| it h3 rfl rfl <| mv rfl <| R.done ?_
      exact ⟨n0, Nat.lt_succ_self _, (IntKind.wrap .i64 (v0 + 1)), F1, h0, h1, h2, rfl, hM⟩
  · have hM := cF hb0 hM
    refine SW.exit <| Qte <| Qte <| Qbx ?_
    exact hJ0  _ _ F1 hM

def M_ContainsFunc_Term__i_goalsValid_1 (f : Nat) (p_0 : (List STerm)) : Option Bool :=
 Option.bind (M_IndexFunc_Term__i_goalsValid_1 f p_0) fun z0 =>
 some (decide (0 ≤ z0))

theorem r_ContainsFunc_Term__i_goalsValid_1 (f : Nat) (p_0 : (List STerm)) (tk_0 : Tk) (r : Bool) (hM : M_ContainsFunc_Term__i_goalsValid_1 f p_0 = some r) (σ_0 : St) : AC Tryz.prog 104 [(LTerm p_0 tk_0), (.fn 105 [])] σ_0 (fun v s => v = (.bool r) ∧ s = σ_0) := by
 have F_0 := Fr.refl σ_0 []
 unfold M_ContainsFunc_Term__i_goalsValid_1 at hM
 refine AC.of_body Tryz.func104 rfl rfl (by rfl) (by simp [Tryz.f104]) <| SW.seqR fun K0 hK0 => sn rfl <| R.done (hK0 _ _ (SW.seqR fun K1 hK1 => mv rfl (mv rfl ?_)))
 obtain ⟨z0, hr0, hM⟩ := bd hM
 refine cp (r_IndexFunc_Term__i_goalsValid_1 f p_0 tk_0 z0 hr0 _) rfl (oc rfl (oc rfl on)) (LeL.refl _) <| it rfl rfl rfl <| sn rfl <| R.done (hK1 _ _ (SW.ret ?_))
 obtain rfl := si hM
 exact ret_of (rc rfl rn) (.bool (decide (0 ≤ z0))) σ_0 (Le.refl _) F_0.back ⟨rfl, rfl⟩

def M_i_goalsValid (f : Nat) (p_0 : (List STerm)) : Option Bool :=
 jn (fun (v0 : Bool) => (
 some (v0)
 )) fun J0 => (
 bif decide ((p_0.length : Int) ≤ 6) then (
 Option.bind (M_ContainsFunc_Term__i_goalsValid_1 f p_0) fun z0 =>
 J0 (!z0)
 ) else (
 J0 false
 )
 )

theorem r_i_goalsValid (f : Nat) (p_0 : (List STerm)) (tk_0 : Tk) (r : Bool) (hM : M_i_goalsValid f p_0 = some r) (σ_0 : St) : AC Tryz.prog 63 [(LTerm p_0 tk_0)] σ_0 (fun v s => v = (.bool r) ∧ s = σ_0) := by
 have F_0 := Fr.refl σ_0 []
 unfold M_i_goalsValid at hM
 refine AC.of_body Tryz.func63 rfl rfl (by rfl) (by simp [Tryz.f63]) <| SW.seqR fun K0 hK0 => sn rfl <| R.done (hK0 _ _ (SW.seqK fun K1 hK1 => ?_))
 obtain ⟨J0, eJ0, hM⟩ := jn_elim hM
 have hJ0 : ∀ (v0 : Bool) (env0 : Env) (σ0 : St), Fr σ_0 σ0 [] → env0.get 2 = some (.bool v0) → J0 v0 = some r → K1 env0 σ0 := by
  intro v0 env0 σ0 F0 h0 hM
  subst eJ0
  refine hK1 _ _ <| SW.ret ?_
  obtain rfl := si hM
  exact ret_of (rc h0 rn) (.bool v0) σ_0 (Le.refl _) F0.back ⟨rfl, rfl⟩
 clear eJ0
 refine SW.region <| mv rfl <| R.op rfl (a_lenImm ti23 rfl rfl (n := (p_0.length : Int)) (by simp) (it rfl rfl rfl (mv rfl ?_)))
 rcases bcase (decide ((p_0.length : Int) ≤ 6)) with hb0 | hb0
 · have hM := cT hb0 hM
   refine R.go (decide ((p_0.length : Int) ≤ 6)) rfl hb0 (a_move rfl ?_)
   obtain ⟨z0, hr0, hM⟩ := bd hM
   refine R.go (decide ((p_0.length : Int) ≤ 6)) rfl hb0 (a_call (g := 104) rfl (oc rfl (oc rfl on)) (AC.goP (r_ContainsFunc_Term__i_goalsValid_1 f p_0 tk_0 z0 hr0 _) (LeL.refl _) (R.go (decide ((p_0.length : Int) ≤ 6)) rfl hb0 (a_not rfl (R.op rfl (a_pickT rfl hb0 rfl (sn rfl (R.done ?_))))))))
   exact hJ0 (!z0) _ _ F_0 rfl hM
 · have hM := cF hb0 hM
   refine R.not (decide ((p_0.length : Int) ≤ 6)) rfl hb0 <| R.not (decide ((p_0.length : Int) ≤ 6)) rfl hb0 <| R.not (decide ((p_0.length : Int) ≤ 6)) rfl hb0 <| R.op rfl (a_pickF rfl hb0 rfl (sn rfl (R.done ?_)))
   exact hJ0 false _ _ F_0 rfl hM

def M_i_ClauseValid (f : Nat) (p_0 : SClause) : Option Bool :=
 jn (fun (v0 : Bool) => (
 some (v0)
 )) fun J0 => (
 Option.bind (M_i_TermValid f p_0.head) fun z0 =>
 bif z0 then (
 Option.bind (M_i_isPlain f p_0.head) fun z1 =>
 bif z1 then (
 Option.bind (M_i_goalsValid f p_0.body) fun z2 =>
 J0 z2
 ) else (
 J0 false
 )
 ) else (
 J0 false
 )
 )

theorem r_i_ClauseValid (f : Nat) (p_0 : SClause) (r : Bool) (hM : M_i_ClauseValid f p_0 = some r) (σ_0 : St) : AC Tryz.prog 25 [(.agg (cClause p_0))] σ_0 (fun v s => v = (.bool r) ∧ s = σ_0) := by
 have F_0 := Fr.refl σ_0 []
 unfold M_i_ClauseValid at hM
 refine AC.of_body Tryz.func25 rfl rfl (by rfl) (by simp [Tryz.f25]) <| SW.seqR fun K0 hK0 => R.op rfl (a_box (v := (.agg (cClause p_0))) rfl rfl fun a0 σ0 n0 s0 hF0 => ?_)
 have lo0 := F_0.lo1 n0
 have F0 := F_0.andThen hF0 Lo.nil
 refine sn rfl <| R.done (hK0 _ _ (SW.seqK fun K1 hK1 => ?_))
 obtain ⟨J0, eJ0, hM⟩ := jn_elim hM
 have hJ0 : ∀ (v0 : Bool) (env0 : Env) (σ1 : St), Fr σ_0 σ1 [] → env0.get 2 = some (.bool v0) → σ1 a0 = some (.cells (cClause p_0)) → J0 v0 = some r → K1 env0 σ1 := by
  intro v0 env0 σ1 F1 h0 s1 hM
  subst eJ0
  refine hK1 _ _ <| SW.ret ?_
  obtain rfl := si hM
  exact ret_of (rc h0 rn) (.bool v0) σ_0 (Le.refl _) F1.back ⟨rfl, rfl⟩
 clear eJ0
 refine SW.region <| fp ti27 rfl rfl rfl (by decide) <| ld (v := (.agg (cTerm p_0.head))) ti25 rfl s0 rfl ?_
 obtain ⟨z0, hr0, hM⟩ := bd hM
 refine cp (r_i_TermValid f p_0.head z0 hr0 _) rfl (oc rfl on) (LeL.refl _) <| mv rfl ?_
 rcases bcase z0 with hb0 | hb0
 · have hM := cT hb0 hM
   refine R.go z0 rfl hb0 (a_fieldPtr ti27 rfl rfl rfl (by decide) (R.go z0 rfl hb0 (a_loadPtr (v := (.agg (cTerm p_0.head))) ti25 rfl s0 rfl ?_)))
   obtain ⟨z1, hr1, hM⟩ := bd hM
   refine R.go z0 rfl hb0 (a_call (g := 62) rfl (oc rfl on) (AC.goP (r_i_isPlain f p_0.head z1 hr1 _) (LeL.refl _) (R.op rfl (a_pickT rfl hb0 rfl (mv rfl ?_)))))
   rcases bcase z1 with hb1 | hb1
   · have hM := cT hb1 hM
     refine R.go z1 rfl hb1 (a_fieldPtr ti27 rfl rfl rfl (by decide) (R.go z1 rfl hb1 (a_loadPtr ti23 rfl s0 rfl ?_)))
     obtain ⟨z2, hr2, hM⟩ := bd hM
     refine R.go z1 rfl hb1 (a_call (g := 63) rfl (oc rfl on) (AC.goP (r_i_goalsValid f p_0.body .no z2 hr2 _) (LeL.refl _) (R.op rfl (a_pickT rfl hb1 rfl (sn rfl (R.done ?_))))))
     exact hJ0 z2 _ _ F0 rfl s0 hM
   · have hM := cF hb1 hM
     refine R.not z1 rfl hb1 <| R.not z1 rfl hb1 <| R.not z1 rfl hb1 <| R.op rfl (a_pickF rfl hb1 rfl (sn rfl (R.done ?_)))
     exact hJ0 false _ _ F0 rfl s0 hM
 · have hM := cF hb0 hM
   refine R.not z0 rfl hb0 <| R.not z0 rfl hb0 <| R.not z0 rfl hb0 <| R.op rfl (a_pickF rfl hb0 rfl (mv rfl (R.not false rfl rfl (R.not false rfl rfl (R.not false rfl rfl (R.op rfl (a_pickF rfl rfl rfl (sn rfl (R.done ?_)))))))))
   exact hJ0 false _ _ F0 rfl s0 hM

def L_i_ownList_1 (c_i_own : STerm → Option STerm) (p_0 : (List STerm)) (J0 : List STerm → Option (List STerm)) : Nat → List STerm → Int → Option (List STerm)
 | 0, _, _ => none
 | n + 1, v0, v1 =>
 bif decide (v1 < (p_0.length : Int)) then (
 bif decide (0 ≤ v1) then
 Option.bind (p_0[(v1 : Int).toNat]?) fun x0 =>
 Option.bind (c_i_own x0) fun z0 =>
 bif decide (v0.length + ([z0]).length ≤ 4294967296) then
 L_i_ownList_1 c_i_own p_0 J0 n (v0 ++ ([z0])) (IntKind.wrap .i64 (v1 + 1))
 else none
 else none
 ) else (
 J0 v0
 )

def B_i_ownList (f : Nat) (c_i_own : STerm → Option STerm) (c_i_ownList : (List STerm) → Option (List STerm)) (p_0 : (List STerm)) : Option (List STerm) :=
 jn (fun (v2 : List STerm) => (
 some (v2)
 )) fun J0 => (
 L_i_ownList_1 c_i_own p_0 J0 f ([] : List STerm) 0
 )

def B_i_own (f : Nat) (c_i_own : STerm → Option STerm) (c_i_ownList : (List STerm) → Option (List STerm)) (p_0 : STerm) : Option STerm :=
 Option.bind (c_i_ownList p_0.kids) fun z1 =>
 some ((STerm.mk p_0.kind p_0.n p_0.name z1))

mutual
def M_i_ownList : Nat → (List STerm) → Option (List STerm)
 | 0, _ => none
 | f + 1, p_0 => B_i_ownList f (M_i_own f) (M_i_ownList f) p_0
def M_i_own : Nat → STerm → Option STerm
 | 0, _ => none
 | f + 1, p_0 => B_i_own f (M_i_own f) (M_i_ownList f) p_0
end

def Q_i_ownList (c : (List STerm) → Option (List STerm)) : Prop := ∀ (p_0 : (List STerm)) (tk_0 : Tk) (r : (List STerm)), c p_0 = some r → ∀ (σ_0 : St), AC Tryz.prog 65 [(LTerm p_0 tk_0)] σ_0 (fun v s => v = (LTerm r .no) ∧ s = σ_0)

def Q_i_own (c : STerm → Option STerm) : Prop := ∀ (p_0 : STerm) (r : STerm), c p_0 = some r → ∀ (σ_0 : St), AC Tryz.prog 64 [(.agg (cTerm p_0))] σ_0 (fun v s => v = (.agg (cTerm r)) ∧ s = σ_0)

theorem b_i_ownList (f : Nat) {c_i_own : STerm → Option STerm} (ih_i_own : Q_i_own c_i_own) {c_i_ownList : (List STerm) → Option (List STerm)} (ih_i_ownList : Q_i_ownList c_i_ownList) : Q_i_ownList (B_i_ownList f c_i_own c_i_ownList) := by
 intro p_0 tk_0 r hM σ_0
 have F_0 := Fr.refl σ_0 []
 unfold B_i_ownList at hM
 refine AC.of_body Tryz.func65 rfl rfl (by rfl) (by simp [Tryz.f65]) <| SW.seqR fun K0 hK0 => R.opLe rfl (a_assign (v := (.imm 0 [] .full)) rfl ⟨(LTerm ([] : List STerm) .full), Le.empty' _ _ _ rfl, (R.done (hK0 _ _ (SW.seqR fun K1 hK1 => R.opLe rfl (a_assign (v := (.imm 0 [] .full)) rfl ⟨(LTerm ([] : List STerm) .full), Le.empty' _ _ _ rfl, (R.done (hK1 _ _ (SW.seqK fun K2 hK2 => ?_)))⟩))))⟩)
 obtain ⟨J0, eJ0, hM⟩ := jn_elim hM
 have hJ0 : ∀ (v2 : List STerm) (tk0 : Tk) (env0 : Env) (σ0 : St), Fr σ_0 σ0 [] → env0.get 3 = some (LTerm v2 tk0) → TokOk σ0 tk0 v2.length 4 → Lo σ_0 [] (tkNames tk0) → J0 v2 = some r → K2 env0 σ0 := by
  intro v2 tk0 env0 σ0 F0 h0 t0 lo0 hM
  subst eJ0
  refine hK2 _ _ <| SW.seqR fun K3 hK3 => mv h0 <| sn rfl <| R.done (hK3 _ _ (SW.ret ?_))
  obtain rfl := si hM
  exact ret_of (rc rfl rn) (LTerm v2 .no) σ_0 (Le.tok _ _ _) F0.back ⟨rfl, rfl⟩
 clear eJ0
 refine SW.seqR fun K4 hK4 => mv rfl <| R.op rfl (a_lenImm ti23 rfl rfl (n := (p_0.length : Int)) (by simp) (mv rfl (R.done (hK4 _ _ (SW.block (SW.loop (LW.ind (I := fun n0 env1 σ1 => ∃ (v0 : List STerm) (v1 : Int) (tk1 : Tk), Fr σ_0 σ1 [] ∧ env1.get 3 = some (LTerm v0 tk1) ∧ env1.get 6 = some (LTerm p_0 tk_0) ∧ env1.get 7 = some (I (p_0.length : Int)) ∧ env1.get 8 = some (I v1) ∧ TokOk σ1 tk1 v0.length 4 ∧ Lo σ_0 [] (tkNames tk1) ∧ L_i_ownList_1 c_i_own p_0 J0 n0 v0 v1 = some r) ?_ f _ _ ⟨([] : List STerm), 0, .full, F_0, rfl, rfl, rfl, rfl, trivial, Lo.full, hM⟩)))))))
 rintro n0 env1 σ1 ⟨v0, v1, tk1, F1, h1, h2, h3, h4, t1, lo2, hM⟩
 cases n0 with
 | zero => (rw [L_i_ownList_1] at hM; cases hM)
 | succ n0 =>
  rw [L_i_ownList_1] at hM
  refine SW.seqR fun K5 hK5 => it h4 h3 rfl <| R.done (hK5 _ _ (SW.seq (SW.cond rfl (fun hb0 => ?_) (fun hb0 => ?_))))
  · have hM := cT hb0 hM
    refine SW.skip <| SW.seq <| SW.block <| SW.seqR fun K6 hK6 => ?_
    obtain ⟨hg0, hM⟩ := gd hM
    obtain ⟨x0, hx0, hM⟩ := bd hM
    refine R.op rfl (a_idxImm (f := eTerm) (xs := p_0) (n := v1) (e := x0) (v := (.agg (cTerm x0))) ti23 rfl ti25 rfl h2 h4 (od hg0) hx0 (eTerm_eq x0) (li (v := (.agg (cTerm x0))) ti25 rfl rfl (alTerm fun a0 σ2 n1 s0 hF0 => ?_)))
    have lo3 := F1.lo1 n1
    have t2 := t1.keep hF0 (by simp)
    have F2 := F1.andThen hF0 Lo.nil
    refine R.op rfl (a_store (cs' := (cTerm x0)) ti25 rfl rfl s0 rfl (nb rfl) rfl rfl fun σ3 s1 hF1 => ?_)
    have t3 := t2.keep hF1 (not1 (tok_cells t2 s0))
    have F3 := F2.andThen hF1 lo3
    refine R.done (hK6 _ _ (SW.region (mv h1 (ld (v := (.agg (cTerm x0))) ti25 rfl s1 rfl ?_))))
    obtain ⟨z0, hr0, hM⟩ := bd hM
    refine cp (ih_i_own x0 z0 hr0 _) rfl (oc rfl on) (LeL.refl _) <| R.op rfl (a_buildSlice (v := (LTerm ([z0]) .full)) (bsv_of' (es := [(.agg (cTerm z0))]) ti23 rfl ti25 (pc rfl pn) rfl ⟨rfl, by decide, by decide, rfl⟩ (by simp only [List.map_cons, List.map_nil, eTerm_eq])) ?_)
    obtain ⟨hg1, hM⟩ := gd hM
    refine R.op rfl (a_append (es := List.map eTerm v0) (ds := List.map eTerm ([z0])) (rs := List.map eTerm (v0 ++ ([z0]))) ti23 rfl ti23 rfl ti25 rfl rfl (.inl rfl) rfl rfl (by decide) (by decide) (by simpa using od hg1) (.inl rfl) (t3.len (by first | rfl | simp)) (by simp) fun tk2 σ4 t4 hF2 nn0 => ?_)
    have lo4 := F3.loTk lo2 nn0
    have s2 := hF2.keep s1 (tok_cells t3 s1)
    have F4 := F3.andThen hF2 lo2
    refine sn rfl <| R.done <| SW.region <| it h4 rfl rfl <| mv rfl <| R.done ?_
    exact ⟨n0, Nat.lt_succ_self _, (v0 ++ ([z0])), (IntKind.wrap .i64 (v1 + 1)), tk2, F4, rfl, h2, h3, rfl, (t4.len (by first | rfl | simp)), lo4, hM⟩
  · have hM := cF hb0 hM
    refine SW.exit <| Qte <| Qte <| Qbx ?_
    exact hJ0 v0 tk1 _ _ F1 h1 (t1.len (by first | rfl | simp)) lo2 hM

theorem b_i_own (f : Nat) {c_i_own : STerm → Option STerm} (ih_i_own : Q_i_own c_i_own) {c_i_ownList : (List STerm) → Option (List STerm)} (ih_i_ownList : Q_i_ownList c_i_ownList) : Q_i_own (B_i_own f c_i_own c_i_ownList) := by
 intro p_0 r hM σ_0
 have F_0 := Fr.refl σ_0 []
 unfold B_i_own at hM
 refine AC.of_body Tryz.func64 rfl rfl (by rfl) (by simp [Tryz.f64]) <| SW.seqR fun K0 hK0 => R.op rfl (a_box (v := (.agg (cTerm p_0))) rfl rfl fun a1 σ5 n2 s3 hF3 => ?_)
 have lo5 := F_0.lo1 n2
 have F5 := F_0.andThen hF3 Lo.nil
 refine alTerm fun a2 σ6 n3 s4 hF4 => ?_
 have ne0 := ne_new n3 s3
 have lo6 := F5.lo1 n3
 have s5 := hF4.keep s3 (by simp)
 have F6 := F5.andThen hF4 Lo.nil
 refine R.done (hK0 _ _ (SW.seqR fun K7 hK7 => fp ti25 rfl rfl rfl (by decide) (ld ti23 rfl s5 rfl ?_)))
 obtain ⟨z1, hr1, hM⟩ := bd hM
 refine cp (ih_i_ownList p_0.kids .no z1 hr1 _) rfl (oc rfl on) (LeL.refl _) <| fp ti25 rfl rfl rfl (by decide) <| R.op rfl (a_store (cs' := [(I p_0.kind), (I p_0.n), (.str p_0.name), (LTerm z1 .no)]) ti23 rfl rfl s5 rfl (nb rfl) rfl rfl fun σ7 s6 hF5 => ?_)
 have s7 := hF5.keep s4 (m1 (Ne.symm ne0))
 have F7 := F6.andThen hF5 lo5
 refine R.done (hK7 _ _ (SW.seqR fun K8 hK8 => ld (v := (.agg [(I p_0.kind), (I p_0.n), (.str p_0.name), (LTerm z1 .no)])) ti25 rfl s6 rfl (R.op rfl (a_store (cs' := [(I p_0.kind), (I p_0.n), (.str p_0.name), (LTerm z1 .no)]) ti25 rfl rfl s7 rfl (nb rfl) rfl rfl fun σ8 s8 hF6 => ?_))))
 have s9 := hF6.keep s6 (m1 ne0)
 have F8 := F7.andThen hF6 lo6
 refine R.done (hK8 _ _ (SW.ret ?_))
 obtain rfl := si hM
 exact ret_of (rcc ti25 rfl s8 rfl rn) (.agg (cTerm (STerm.mk p_0.kind p_0.n p_0.name z1))) σ_0 (Le.refl _) F8.back ⟨rfl, rfl⟩

theorem rr_i_ownList (f : Nat) : Q_i_ownList (M_i_ownList f) ∧ Q_i_own (M_i_own f) := by
 induction f with
 | zero => exact ⟨(by intro p_0 tk_0 r hM; rw [M_i_ownList] at hM; cases hM), (by intro p_0 r hM; rw [M_i_own] at hM; cases hM)⟩
 | succ f ih => exact ⟨(by intro p_0 tk_0 r hM; rw [M_i_ownList] at hM; exact b_i_ownList f ih.2 ih.1 p_0 tk_0 r hM), (by intro p_0 r hM; rw [M_i_own] at hM; exact b_i_own f ih.2 ih.1 p_0 r hM)⟩

theorem r_i_ownList (f : Nat) : Q_i_ownList (M_i_ownList f) := (rr_i_ownList f).1

theorem r_i_own (f : Nat) : Q_i_own (M_i_own f) := (rr_i_ownList f).2

def M_i_ownClause (f : Nat) (p_0 : SClause) : Option SClause :=
 Option.bind (M_i_own f p_0.head) fun z0 =>
 Option.bind (M_i_ownList f p_0.body) fun z1 =>
 some ((SClause.mk z0 z1))

theorem r_i_ownClause (f : Nat) (p_0 : SClause) (r : SClause) (hM : M_i_ownClause f p_0 = some r) (σ_0 : St) : AC Tryz.prog 26 [(.agg (cClause p_0))] σ_0 (fun v s => v = (.agg (cClause r)) ∧ s = σ_0) := by
 have F_0 := Fr.refl σ_0 []
 unfold M_i_ownClause at hM
 refine AC.of_body Tryz.func26 rfl rfl (by rfl) (by simp [Tryz.f26]) <| SW.seqR fun K0 hK0 => R.op rfl (a_box (v := (.agg (cClause p_0))) rfl rfl fun a0 σ0 n0 s0 hF0 => ?_)
 have lo0 := F_0.lo1 n0
 have F0 := F_0.andThen hF0 Lo.nil
 refine alClause fun a1 σ1 n1 s1 hF1 => ?_
 have ne0 := ne_new n1 s0
 have lo2 := F0.lo1 n1
 have s2 := hF1.keep s0 (by simp)
 have F1 := F0.andThen hF1 Lo.nil
 refine R.done (hK0 _ _ (SW.seqK fun K1 hK1 => SW.draw' mixed [(0, false), (3, false), (1, false), (4, true), (2, true), (5, false), (6, false), (7, false)] [(a0, wLod ⟨1, 24, false, (some (.imm 0 [] .full)), (.slice 25)⟩ 4 (LTerm p_0.body .no))] [] (by kernel_rfl) (by kernel_rfl) (fun t ht => by simp at ht) (D.op rfl rfl (a_fieldPtr ti27 rfl rfl rfl (by decide) (D.op rfl rfl (a_fieldPtr ti27 rfl rfl rfl (by decide) (D.op rfl rfl (a_loadPtr (v := (.agg (cTerm p_0.head))) ti25 rfl s2 rfl (D.rd rfl rfl (wat_lod s2 rfl wat_nil) (lk_load ti23 rfl (wat_lod s2 rfl wat_nil) (.head _)) rfl (a_loadPtr ti23 rfl s2 rfl ?_))))))))))
 obtain ⟨z0, hr0, hM⟩ := bd hM
 refine D.wk rfl rfl (wat_lod s2 rfl wat_nil) rfl (a_call (g := 64) rfl (oc rfl on) (AC.goP (r_i_own f p_0.head z0 hr0 _) (LeL.refl _) (⟨(wat_lod s2 rfl wat_nil), ?_⟩)))
 obtain ⟨z1, hr1, hM⟩ := bd hM
 refine D.op rfl rfl (a_call (g := 65) rfl (oc rfl on) (AC.goP (r_i_ownList f p_0.body .no z1 hr1 _) (LeL.refl _) (D.op rfl rfl (a_build (cs := [(I z0.kind), (I z0.n), (.str z0.name), (LTerm z0.kids .no), (LTerm z1 .no)]) ti27 rfl rfl (pc rfl (pc rfl pn)) rfl (D.op rfl rfl (a_store (cs' := [(I z0.kind), (I z0.n), (.str z0.name), (LTerm z0.kids .no), (LTerm z1 .no)]) ti27 rfl rfl s1 rfl (nb rfl) rfl rfl fun σ2 s3 hF2 => ?_))))))
 have s4 := hF2.keep s2 (m1 ne0)
 have F2 := F1.andThen hF2 lo2
 refine D.done (hK1 _ _ (SW.ret ?_))
 obtain rfl := si hM
 exact ret_of (rcc ti27 rfl s3 rfl rn) (.agg (cClause (SClause.mk z0 z1))) σ_0 (Le.refl _) F2.back ⟨rfl, rfl⟩

def L_Index_int_1 (p_0 : (List Int)) (p_1 : Int) (J0 : Unit → Option Int) : Nat → Int → Option Int
 | 0, _ => none
 | n + 1, v0 =>
 bif decide (v0 < (p_0.length : Int)) then (
 bif decide (0 ≤ v0) then
 Option.bind (p_0[(v0 : Int).toNat]?) fun x0 =>
 bif (p_1 == x0) then (
 some (v0)
 ) else (
 L_Index_int_1 p_0 p_1 J0 n (IntKind.wrap .i64 (v0 + 1))
 )
 else none
 ) else (
 J0 ()
 )

def M_Index_int (f : Nat) (p_0 : (List Int)) (p_1 : Int) : Option Int :=
 jn (fun (_ : Unit) => (
 some ((-1))
 )) fun J0 => (
 L_Index_int_1 p_0 p_1 J0 f 0
 )

theorem r_Index_int (f : Nat) (p_0 : (List Int)) (tk_0 : Tk) (p_1 : Int) (r : Int) (hM : M_Index_int f p_0 p_1 = some r) (σ_0 : St) : AC Tryz.prog 85 [(LI p_0 tk_0), (I p_1)] σ_0 (fun v s => v = (I r) ∧ s = σ_0) := by
 have F_0 := Fr.refl σ_0 []
 unfold M_Index_int at hM
 refine AC.of_body Tryz.func85 rfl rfl (by rfl) (by simp [Tryz.f85]) <| SW.seqR fun K0 hK0 => sn rfl <| R.done (hK0 _ _ (SW.seqK fun K1 hK1 => ?_))
 obtain ⟨J0, eJ0, hM⟩ := jn_elim hM
 have hJ0 : ∀  (env0 : Env) (σ0 : St), Fr σ_0 σ0 [] → J0 () = some r → K1 env0 σ0 := by
  intro env0 σ0 F0 hM
  subst eJ0
  refine hK1 _ _ <| SW.seqR fun K2 hK2 => sn rfl <| R.done (hK2 _ _ (SW.ret ?_))
  obtain rfl := si hM
  exact ret_of (rc rfl rn) (I (-1)) σ_0 (Le.refl _) F0.back ⟨rfl, rfl⟩
 clear eJ0
 refine SW.seqR fun K3 hK3 => mv rfl <| R.op rfl (a_lenImm ti76 rfl rfl (n := (p_0.length : Int)) (by simp) (mv rfl (R.done (hK3 _ _ (SW.block (SW.loop (LW.ind (I := fun n0 env1 σ1 => ∃ (v0 : Int), Fr σ_0 σ1 [] ∧ env1.get 0 = some (LI p_0 tk_0) ∧ env1.get 1 = some (I p_1) ∧ env1.get 7 = some (I (p_0.length : Int)) ∧ env1.get 8 = some (I v0) ∧ L_Index_int_1 p_0 p_1 J0 n0 v0 = some r) ?_ f _ _ ⟨0, F_0, rfl, rfl, rfl, rfl, hM⟩)))))))
 rintro n0 env1 σ1 ⟨v0, F1, h0, h1, h2, h3, hM⟩
 cases n0 with
 | zero => (rw [L_Index_int_1] at hM; cases hM)
 | succ n0 =>
  rw [L_Index_int_1] at hM
  refine SW.seqR fun K4 hK4 => it h3 h2 rfl <| R.done (hK4 _ _ (SW.seq (SW.cond rfl (fun hb0 => ?_) (fun hb0 => ?_))))
  · have hM := cT hb0 hM
    refine SW.skip <| SW.seq <| SW.block <| SW.seqR fun K5 hK5 => mv h3 <| sn rfl <| R.done (hK5 _ _ (SW.seqR fun K6 hK6 => mv h1 (mv h0 (mv rfl ?_))))
    obtain ⟨hg0, hM⟩ := gd hM
    obtain ⟨x0, hx0, hM⟩ := bd hM
    refine R.op rfl (a_idxImm (f := (AV.int .i64)) (xs := p_0) (n := v0) (e := x0) (v := (I x0)) ti76 rfl ti3 rfl rfl rfl (od hg0) hx0 rfl (li ti3 rfl rfl (it rfl rfl rfl (R.done (hK6 _ _ (SW.cond rfl (fun hb1 => ?_) (fun hb1 => ?_)))))))
    · have hM := cT hb1 hM
      refine SW.seqR fun K7 hK7 => mv rfl <| sn rfl <| R.done (hK7 _ _ (SW.ret (Qb (Qt (Qt (Qb (Qt ?_)))))))
      obtain rfl := si hM
      exact ret_of (rc rfl rn) (I v0) σ_0 (Le.refl _) F1.back ⟨rfl, rfl⟩
    · have hM := cF hb1 hM
      refine SW.skip <| SW.region <| it h3 rfl rfl <| mv rfl <| R.done ?_
      exact ⟨n0, Nat.lt_succ_self _, (IntKind.wrap .i64 (v0 + 1)), F1, h0, h1, h2, rfl, hM⟩
  · have hM := cF hb0 hM
    refine SW.exit <| Qte <| Qte <| Qbx ?_
    exact hJ0  _ _ F1 hM

def M_Contains_int (f : Nat) (p_0 : (List Int)) (p_1 : Int) : Option Bool :=
 Option.bind (M_Index_int f p_0 p_1) fun z0 =>
 some (decide (0 ≤ z0))

theorem r_Contains_int (f : Nat) (p_0 : (List Int)) (tk_0 : Tk) (p_1 : Int) (r : Bool) (hM : M_Contains_int f p_0 p_1 = some r) (σ_0 : St) : AC Tryz.prog 148 [(LI p_0 tk_0), (I p_1)] σ_0 (fun v s => v = (.bool r) ∧ s = σ_0) := by
 have F_0 := Fr.refl σ_0 []
 unfold M_Contains_int at hM
 refine AC.of_body Tryz.func148 rfl rfl (by rfl) (by simp [Tryz.f148]) <| SW.seqR fun K0 hK0 => sn rfl <| R.done (hK0 _ _ (SW.seqR fun K1 hK1 => mv rfl (mv rfl ?_)))
 obtain ⟨z0, hr0, hM⟩ := bd hM
 refine cp (r_Index_int f p_0 tk_0 p_1 z0 hr0 _) rfl (oc rfl (oc rfl on)) (LeL.refl _) <| it rfl rfl rfl <| sn rfl <| R.done (hK1 _ _ (SW.ret ?_))
 obtain rfl := si hM
 exact ret_of (rc rfl rn) (.bool (decide (0 ≤ z0))) σ_0 (Le.refl _) F_0.back ⟨rfl, rfl⟩

def L_i_addVars_1 (c_i_addVars : STerm → (List Int) → Option (List Int)) (p_0 : STerm) (J0 : List Int → Option (List Int)) : Nat → List Int → Int → Option (List Int)
 | 0, _, _ => none
 | n + 1, v0, v1 =>
 bif decide (v1 < (p_0.kids.length : Int)) then (
 bif decide (0 ≤ v1) then
 Option.bind (p_0.kids[(v1 : Int).toNat]?) fun x0 =>
 Option.bind (c_i_addVars x0 v0) fun z0 =>
 L_i_addVars_1 c_i_addVars p_0 J0 n z0 (IntKind.wrap .i64 (v1 + 1))
 else none
 ) else (
 J0 v0
 )

def B_i_addVars (f : Nat) (c_i_addVars : STerm → (List Int) → Option (List Int)) (p_0 : STerm) (p_1 : (List Int)) : Option (List Int) :=
 jn (fun (v2 : List Int) => (
 jn (fun (v3 : List Int) => (
 some (v3)
 )) fun J0 => (
 L_i_addVars_1 c_i_addVars p_0 J0 f v2 0
 )
 )) fun J1 => (
 jn (fun (v4 : Bool) => (
 bif v4 then (
 bif decide (p_1.length + ([p_0.n]).length ≤ 4294967296) then
 J1 (p_1 ++ ([p_0.n]))
 else none
 ) else (
 J1 p_1
 )
 )) fun J2 => (
 bif (p_0.kind == 1) then (
 Option.bind (M_Contains_int f p_1 p_0.n) fun z1 =>
 J2 (!z1)
 ) else (
 J2 false
 )
 )
 )

def M_i_addVars : Nat → STerm → (List Int) → Option (List Int)
 | 0, _, _ => none
 | f + 1, p_0, p_1 => B_i_addVars f (M_i_addVars f) p_0 p_1

def Q_i_addVars (c : STerm → (List Int) → Option (List Int)) : Prop := ∀ (p_0 : STerm) (p_1 : (List Int)) (tk_1 : Tk) (r : (List Int)), c p_0 p_1 = some r → ∀ (σ_0 : St), (t_1 : TokOk σ_0 tk_1 p_1.length 1) → AC Tryz.prog 126 [(.agg (cTerm p_0)), (LI p_1 tk_1)] σ_0 (fun v s => ∃ (tkr_0 : Tk), v = (LI r tkr_0) ∧ TokOk s tkr_0 r.length 1 ∧ (∀ i ∈ tkNames tkr_0, i ∈ (tkNames tk_1) ∨ σ_0 i = none) ∧ Fr σ_0 s (tkNames tk_1))

theorem b_i_addVars (f : Nat) {c_i_addVars : STerm → (List Int) → Option (List Int)} (ih_i_addVars : Q_i_addVars c_i_addVars) : Q_i_addVars (B_i_addVars f c_i_addVars) := by
 intro p_0 p_1 tk_1 r hM σ_0 t_1
 have F_0 := Fr.refl σ_0 (tkNames tk_1)
 unfold B_i_addVars at hM
 refine AC.of_body Tryz.func126 rfl rfl (by rfl) (by simp [Tryz.f126]) <| SW.seqR fun K0 hK0 => R.op rfl (a_box (v := (.agg (cTerm p_0))) rfl rfl fun a0 σ0 n0 s0 hF0 => ?_)
 have lo0 := F_0.lo1 n0
 have t0 := t_1.keep hF0 (by simp)
 have F0 := F_0.andThen hF0 Lo.nil
 refine R.opLe rfl (a_assign (v := (.imm 0 [] .full)) rfl ⟨(LI ([] : List Int) .full), Le.empty' _ _ _ rfl, (R.done (hK0 _ _ (SW.seqK fun K1 hK1 => ?_)))⟩)
 obtain ⟨J1, eJ0, hM⟩ := jn_elim hM
 have hJ0 : ∀ (v2 : List Int) (tk0 : Tk) (env0 : Env) (σ1 : St), Fr σ_0 σ1 (tkNames tk_1) → env0.get 1 = some (LI v2 tk0) → env0.get 2 = some (.ptr a0 0) → σ1 a0 = some (.cells (cTerm p_0)) → TokOk σ1 tk0 v2.length 1 → Lo σ_0 (tkNames tk_1) (tkNames tk0) → J1 v2 = some r → K1 env0 σ1 := by
  intro v2 tk0 env0 σ1 F1 h0 h1 s1 t1 lo2 hM
  subst eJ0
  refine hK1 _ _ <| SW.seqK fun K2 hK2 => ?_
  obtain ⟨J0, eJ1, hM⟩ := jn_elim hM
  have hJ1 : ∀ (v3 : List Int) (tk1 : Tk) (env1 : Env) (σ2 : St), Fr σ_0 σ2 (tkNames tk_1) → env1.get 1 = some (LI v3 tk1) → TokOk σ2 tk1 v3.length 1 → Lo σ_0 (tkNames tk_1) (tkNames tk1) → J0 v3 = some r → K2 env1 σ2 := by
   intro v3 tk1 env1 σ2 F2 h2 t2 lo3 hM
   subst eJ1
   refine hK2 _ _ <| SW.seqR fun K3 hK3 => mv h2 <| sn rfl <| R.done (hK3 _ _ (SW.ret ?_))
   obtain rfl := si hM
   exact ret_of (rc rfl rn) (LI v3 tk1) _ (Le.refl _) (StLe.refl _) ⟨tk1, rfl, (t2.len (by first | rfl | simp)), lo3.nn, F2⟩
  clear eJ1
  refine SW.seqR fun K4 hK4 => fp ti25 rfl h1 rfl (by decide) <| ld ti23 rfl s1 rfl <| R.op rfl (a_lenImm ti23 rfl rfl (n := (p_0.kids.length : Int)) (by simp) (mv rfl (R.done (hK4 _ _ (SW.block (SW.loop (LW.ind (I := fun n1 env2 σ3 => ∃ (v0 : List Int) (v1 : Int) (tk2 : Tk), Fr σ_0 σ3 (tkNames tk_1) ∧ env2.get 1 = some (LI v0 tk2) ∧ env2.get 23 = some (LTerm p_0.kids .no) ∧ env2.get 24 = some (I (p_0.kids.length : Int)) ∧ env2.get 25 = some (I v1) ∧ TokOk σ3 tk2 v0.length 1 ∧ Lo σ_0 (tkNames tk_1) (tkNames tk2) ∧ L_i_addVars_1 c_i_addVars p_0 J0 n1 v0 v1 = some r) ?_ f _ _ ⟨v2, 0, tk0, F1, h0, rfl, rfl, rfl, (t1.len (by first | rfl | simp)), lo2, hM⟩)))))))
  rintro n1 env2 σ3 ⟨v0, v1, tk2, F3, h3, h4, h5, h6, t3, lo4, hM⟩
  cases n1 with
  | zero => (rw [L_i_addVars_1] at hM; cases hM)
  | succ n1 =>
   rw [L_i_addVars_1] at hM
   refine SW.seqR fun K5 hK5 => it h6 h5 rfl <| R.done (hK5 _ _ (SW.seq (SW.cond rfl (fun hb0 => ?_) (fun hb0 => ?_))))
   · have hM := cT hb0 hM
     refine SW.skip <| SW.seq <| SW.block <| SW.seqR fun K6 hK6 => ?_
     obtain ⟨hg0, hM⟩ := gd hM
     obtain ⟨x0, hx0, hM⟩ := bd hM
     refine R.op rfl (a_idxImm (f := eTerm) (xs := p_0.kids) (n := v1) (e := x0) (v := (.agg (cTerm x0))) ti23 rfl ti25 rfl h4 h6 (od hg0) hx0 (eTerm_eq x0) (li (v := (.agg (cTerm x0))) ti25 rfl rfl (alTerm fun a1 σ4 n2 s2 hF1 => ?_)))
     have lo5 := F3.lo1 n2
     have t4 := t3.keep hF1 (by simp)
     have F4 := F3.andThen hF1 Lo.nil
     refine R.op rfl (a_store (cs' := (cTerm x0)) ti25 rfl rfl s2 rfl (nb rfl) rfl rfl fun σ5 s3 hF2 => ?_)
     have t5 := t4.keep hF2 (not1 (tok_cells t4 s2))
     have F5 := F4.andThen hF2 lo5
     refine R.done (hK6 _ _ (SW.region (ld (v := (.agg (cTerm x0))) ti25 rfl s3 rfl (mv h3 ?_))))
     obtain ⟨z0, hr0, hM⟩ := bd hM
     refine cl rfl (oc rfl (oc rfl on)) (AC.go (ih_i_addVars x0 v0 tk2 z0 hr0 _ (t5.len (by first | rfl | simp))) (LeL.refl _) (StLe.refl _) fun v_ σ6 hp_ => ?_)
     obtain ⟨tk3, rfl, t6, nn0, hF3⟩ := hp_
     have lo6 := Lo.call F5 lo4 nn0
     have s4 := hF3.keep s3 (tok_cells t5 s3)
     have F6 := F5.andThen hF3 lo4
     refine sn rfl <| R.done <| SW.region <| it h6 rfl rfl <| mv rfl <| R.done ?_
     exact ⟨n1, Nat.lt_succ_self _, z0, (IntKind.wrap .i64 (v1 + 1)), tk3, F6, rfl, h4, h5, rfl, (t6.len (by first | rfl | simp)), lo6, hM⟩
   · have hM := cF hb0 hM
     refine SW.exit <| Qte <| Qte <| Qbx ?_
     exact hJ1 v0 tk2 _ _ F3 h3 (t3.len (by first | rfl | simp)) lo4 hM
 clear eJ0
 refine SW.seqK fun K7 hK7 => ?_
 obtain ⟨J2, eJ2, hM⟩ := jn_elim hM
 have hJ2 : ∀ (v4 : Bool) (env3 : Env) (σ7 : St), Fr σ_0 σ7 (tkNames tk_1) → env3.get 1 = some (LI p_1 tk_1) → env3.get 2 = some (.ptr a0 0) → env3.get 16 = some (.bool v4) → σ7 a0 = some (.cells (cTerm p_0)) → TokOk σ7 tk_1 p_1.length 1 → J2 v4 = some r → K7 env3 σ7 := by
  intro v4 env3 σ7 F7 h7 h8 h9 s5 t7 hM
  subst eJ2
  refine hK7 _ _ <| SW.cond h9 (fun hb1 => ?_) (fun hb1 => ?_)
  · have hM := cT hb1 hM
    refine SW.region <| mv h7 <| fp ti25 rfl h8 rfl (by decide) <| ld ti3 rfl s5 rfl <| R.op rfl (a_buildSlice (v := (LI ([p_0.n]) .full)) (bsv_of ti76 rfl ti3 (pc rfl pn) rfl ⟨rfl, by decide, by decide, rfl⟩) ?_)
    obtain ⟨hg1, hM⟩ := gd hM
    refine R.op rfl (a_append (es := List.map (AV.int .i64) p_1) (ds := List.map (AV.int .i64) ([p_0.n])) (rs := List.map (AV.int .i64) (p_1 ++ ([p_0.n]))) ti76 rfl ti76 rfl ti3 rfl rfl (.inl rfl) rfl rfl (by decide) (by decide) (by simpa using od hg1) (.inl rfl) (t7.len (by first | rfl | simp)) (by simp) fun tk4 σ8 t8 hF4 nn1 => ?_)
    have lo7 := F7.loTk (Lo.mem fun j_ hj_ => hj_) nn1
    have s6 := hF4.keep s5 (tok_cells t7 s5)
    have F8 := F7.andThen hF4 (Lo.mem fun j_ hj_ => hj_)
    refine sn rfl <| R.done ?_
    exact hJ0 (p_1 ++ ([p_0.n])) tk4 _ _ F8 rfl h8 s6 (t8.len (by first | rfl | simp)) lo7 hM
  · have hM := cF hb1 hM
    refine SW.skip ?_
    exact hJ0 p_1 tk_1 _ _ F7 h7 h8 s5 (t7.len (by first | rfl | simp)) (Lo.mem fun j_ hj_ => hj_) hM
 clear eJ2
 refine SW.region <| fp ti25 rfl rfl rfl (by decide) <| ld ti3 rfl s0 rfl <| it rfl rfl rfl <| mv rfl ?_
 rcases bcase (p_0.kind == 1) with hb2 | hb2
 · have hM := cT hb2 hM
   refine R.go (p_0.kind == 1) rfl hb2 (a_move rfl (R.go (p_0.kind == 1) rfl hb2 (a_fieldPtr ti25 rfl rfl rfl (by decide) (R.go (p_0.kind == 1) rfl hb2 (a_loadPtr ti3 rfl s0 rfl ?_)))))
   obtain ⟨z1, hr1, hM⟩ := bd hM
   refine R.go (p_0.kind == 1) rfl hb2 (a_call (g := 148) rfl (oc rfl (oc rfl on)) (AC.goP (r_Contains_int f p_1 tk_1 p_0.n z1 hr1 _) (LeL.refl _) (R.go (p_0.kind == 1) rfl hb2 (a_not rfl (R.op rfl (a_pickT rfl hb2 rfl (R.done ?_)))))))
   exact hJ2 (!z1) _ _ F0 rfl rfl rfl s0 (t0.len (by first | rfl | simp)) hM
 · have hM := cF hb2 hM
   refine R.not (p_0.kind == 1) rfl hb2 <| R.not (p_0.kind == 1) rfl hb2 <| R.not (p_0.kind == 1) rfl hb2 <| R.not (p_0.kind == 1) rfl hb2 <| R.not (p_0.kind == 1) rfl hb2 <| R.op rfl (a_pickF rfl hb2 rfl (R.done ?_))
   exact hJ2 false _ _ F0 rfl rfl rfl s0 (t0.len (by first | rfl | simp)) hM

theorem rr_i_addVars (f : Nat) : Q_i_addVars (M_i_addVars f) := by
 induction f with
 | zero => exact by intro p_0 p_1 tk_1 r hM; rw [M_i_addVars] at hM; cases hM
 | succ f ih => exact by intro p_0 p_1 tk_1 r hM; rw [M_i_addVars] at hM; exact b_i_addVars f ih p_0 p_1 tk_1 r hM

theorem r_i_addVars (f : Nat) : Q_i_addVars (M_i_addVars f) := (rr_i_addVars f)

def L_i_varsOf_1 (f : Nat) (p_0 : (List STerm)) (J0 : List Int → Option (List Int)) : Nat → List Int → Int → Option (List Int)
 | 0, _, _ => none
 | n + 1, v0, v1 =>
 bif decide (v1 < (p_0.length : Int)) then (
 bif decide (0 ≤ v1) then
 Option.bind (p_0[(v1 : Int).toNat]?) fun x0 =>
 Option.bind (M_i_addVars f x0 v0) fun z0 =>
 L_i_varsOf_1 f p_0 J0 n z0 (IntKind.wrap .i64 (v1 + 1))
 else none
 ) else (
 J0 v0
 )

def M_i_varsOf (f : Nat) (p_0 : (List STerm)) : Option (List Int) :=
 jn (fun (v2 : List Int) => (
 some (v2)
 )) fun J0 => (
 L_i_varsOf_1 f p_0 J0 f ([] : List Int) 0
 )

theorem r_i_varsOf (f : Nat) (p_0 : (List STerm)) (tk_0 : Tk) (r : (List Int)) (hM : M_i_varsOf f p_0 = some r) (σ_0 : St) : AC Tryz.prog 82 [(LTerm p_0 tk_0)] σ_0 (fun v s => v = (LI r .no) ∧ s = σ_0) := by
 have F_0 := Fr.refl σ_0 []
 unfold M_i_varsOf at hM
 refine AC.of_body Tryz.func82 rfl rfl (by rfl) (by simp [Tryz.f82]) <| SW.seqR fun K0 hK0 => R.opLe rfl (a_assign (v := (.imm 0 [] .full)) rfl ⟨(LI ([] : List Int) .full), Le.empty' _ _ _ rfl, (R.done (hK0 _ _ (SW.seqR fun K1 hK1 => R.opLe rfl (a_assign (v := (.imm 0 [] .full)) rfl ⟨(LI ([] : List Int) .full), Le.empty' _ _ _ rfl, (R.done (hK1 _ _ (SW.seqK fun K2 hK2 => ?_)))⟩))))⟩)
 obtain ⟨J0, eJ0, hM⟩ := jn_elim hM
 have hJ0 : ∀ (v2 : List Int) (tk0 : Tk) (env0 : Env) (σ0 : St), Fr σ_0 σ0 [] → env0.get 3 = some (LI v2 tk0) → TokOk σ0 tk0 v2.length 1 → Lo σ_0 [] (tkNames tk0) → J0 v2 = some r → K2 env0 σ0 := by
  intro v2 tk0 env0 σ0 F0 h0 t0 lo0 hM
  subst eJ0
  refine hK2 _ _ <| SW.seqR fun K3 hK3 => mv h0 <| sn rfl <| R.done (hK3 _ _ (SW.ret ?_))
  obtain rfl := si hM
  exact ret_of (rc rfl rn) (LI v2 .no) σ_0 (Le.tok _ _ _) F0.back ⟨rfl, rfl⟩
 clear eJ0
 refine SW.seqR fun K4 hK4 => mv rfl <| R.op rfl (a_lenImm ti23 rfl rfl (n := (p_0.length : Int)) (by simp) (mv rfl (R.done (hK4 _ _ (SW.block (SW.loop (LW.ind (I := fun n0 env1 σ1 => ∃ (v0 : List Int) (v1 : Int) (tk1 : Tk), Fr σ_0 σ1 [] ∧ env1.get 3 = some (LI v0 tk1) ∧ env1.get 6 = some (LTerm p_0 tk_0) ∧ env1.get 7 = some (I (p_0.length : Int)) ∧ env1.get 8 = some (I v1) ∧ TokOk σ1 tk1 v0.length 1 ∧ Lo σ_0 [] (tkNames tk1) ∧ L_i_varsOf_1 f p_0 J0 n0 v0 v1 = some r) ?_ f _ _ ⟨([] : List Int), 0, .full, F_0, rfl, rfl, rfl, rfl, trivial, Lo.full, hM⟩)))))))
 rintro n0 env1 σ1 ⟨v0, v1, tk1, F1, h1, h2, h3, h4, t1, lo2, hM⟩
 cases n0 with
 | zero => (rw [L_i_varsOf_1] at hM; cases hM)
 | succ n0 =>
  rw [L_i_varsOf_1] at hM
  refine SW.seqR fun K5 hK5 => it h4 h3 rfl <| R.done (hK5 _ _ (SW.seq (SW.cond rfl (fun hb0 => ?_) (fun hb0 => ?_))))
  · have hM := cT hb0 hM
    refine SW.skip <| SW.seq <| SW.block <| SW.seqR fun K6 hK6 => ?_
    obtain ⟨hg0, hM⟩ := gd hM
    obtain ⟨x0, hx0, hM⟩ := bd hM
    refine R.op rfl (a_idxImm (f := eTerm) (xs := p_0) (n := v1) (e := x0) (v := (.agg (cTerm x0))) ti23 rfl ti25 rfl h2 h4 (od hg0) hx0 (eTerm_eq x0) (li (v := (.agg (cTerm x0))) ti25 rfl rfl (alTerm fun a0 σ2 n1 s0 hF0 => ?_)))
    have lo3 := F1.lo1 n1
    have t2 := t1.keep hF0 (by simp)
    have F2 := F1.andThen hF0 Lo.nil
    refine R.op rfl (a_store (cs' := (cTerm x0)) ti25 rfl rfl s0 rfl (nb rfl) rfl rfl fun σ3 s1 hF1 => ?_)
    have t3 := t2.keep hF1 (not1 (tok_cells t2 s0))
    have F3 := F2.andThen hF1 lo3
    refine R.done (hK6 _ _ (SW.region (ld (v := (.agg (cTerm x0))) ti25 rfl s1 rfl (mv h1 ?_))))
    obtain ⟨z0, hr0, hM⟩ := bd hM
    refine cl rfl (oc rfl (oc rfl on)) (AC.go (r_i_addVars f x0 v0 tk1 z0 hr0 _ (t3.len (by first | rfl | simp))) (LeL.refl _) (StLe.refl _) fun v_ σ4 hp_ => ?_)
    obtain ⟨tk2, rfl, t4, nn0, hF2⟩ := hp_
    have lo4 := Lo.call F3 lo2 nn0
    have s2 := hF2.keep s1 (tok_cells t3 s1)
    have F4 := F3.andThen hF2 lo2
    refine sn rfl <| R.done <| SW.region <| it h4 rfl rfl <| mv rfl <| R.done ?_
    exact ⟨n0, Nat.lt_succ_self _, z0, (IntKind.wrap .i64 (v1 + 1)), tk2, F4, rfl, h2, h3, rfl, (t4.len (by first | rfl | simp)), lo4, hM⟩
  · have hM := cF hb0 hM
    refine SW.exit <| Qte <| Qte <| Qbx ?_
    exact hJ0 v0 tk1 _ _ F1 h1 (t1.len (by first | rfl | simp)) lo2 hM

def M_i_variable (f : Nat) (p_0 : Int) : Option STerm :=
 some ((STerm.mk 1 p_0 (⟨#[]⟩ : ByteArray) ([] : List STerm)))

theorem r_i_variable (f : Nat) (p_0 : Int) (r : STerm) (hM : M_i_variable f p_0 = some r) (σ_0 : St) : AC Tryz.prog 78 [(I p_0)] σ_0 (fun v s => v = (.agg [(I r.kind), (I r.n), (.str r.name), (LTerm r.kids .full)]) ∧ s = σ_0) := by
 have F_0 := Fr.refl σ_0 []
 unfold M_i_variable at hM
 refine AC.of_body Tryz.func78 rfl rfl (by rfl) (by simp [Tryz.f78]) <| SW.seqR fun K0 hK0 => alTerm fun a0 σ0 n0 s0 hF0 => ?_
 have lo0 := F_0.lo1 n0
 have F0 := F_0.andThen hF0 Lo.nil
 refine R.done (hK0 _ _ (SW.seqR fun K1 hK1 => mv rfl (R.opLe rfl (a_build (cs := [(I 1), (I p_0), (.str (⟨#[]⟩ : ByteArray)), (.imm 0 [] .full)]) ti25 rfl rfl (pc rfl (pc rfl pn)) rfl ⟨(.agg [(I 1), (I p_0), (.str (⟨#[]⟩ : ByteArray)), (LTerm ([] : List STerm) .full)]), Le.agg (LeL.cons (Le.refl _) (LeL.cons (Le.refl _) (LeL.cons (Le.refl _) (LeL.cons (Le.empty' _ _ _ rfl) LeL.nil)))), (R.op rfl (a_store (cs' := [(I 1), (I p_0), (.str (⟨#[]⟩ : ByteArray)), (LTerm ([] : List STerm) .full)]) ti25 rfl rfl s0 rfl (nb rfl) rfl rfl fun σ1 s1 hF1 => ?_))⟩))))
 have F1 := F0.andThen hF1 lo0
 refine R.done (hK1 _ _ (SW.ret ?_))
 obtain rfl := si hM
 exact ret_of (rcc ti25 rfl s1 rfl rn) (.agg [(I ((STerm.mk 1 p_0 (⟨#[]⟩ : ByteArray) ([] : List STerm)).kind)), (I ((STerm.mk 1 p_0 (⟨#[]⟩ : ByteArray) ([] : List STerm)).n)), (.str ((STerm.mk 1 p_0 (⟨#[]⟩ : ByteArray) ([] : List STerm)).name)), (LTerm ((STerm.mk 1 p_0 (⟨#[]⟩ : ByteArray) ([] : List STerm)).kids) .full)]) σ_0 (Le.refl _) F1.back ⟨rfl, rfl⟩

def M_i_renumbered_1 (f : Nat) (p_0 : Int) (o0c0_0 : List Int) : Option STerm :=
 Option.bind (M_Index_int f o0c0_0 p_0) fun z0 =>
 Option.bind (M_i_variable f z0) fun z1 =>
 some (z1)

theorem r_i_renumbered_1 (f : Nat) (p_0 : Int) (a_0 : Nat) (o0c0_0 : List Int) (tko0c0_0 : Tk) (r : STerm) (hM : M_i_renumbered_1 f p_0 o0c0_0 = some r) (σ_0 : St) (s_0 : σ_0 a_0 = some (.cells [(LI o0c0_0 tko0c0_0)])) : AC Tryz.prog 84 [(I p_0), (.ptr a_0 0)] σ_0 (fun v s => v = (.agg [(I r.kind), (I r.n), (.str r.name), (LTerm r.kids .full)]) ∧ s = σ_0) := by
 have F_0 := Fr.refl σ_0 []
 unfold M_i_renumbered_1 at hM
 refine AC.of_body Tryz.func84 rfl rfl (by rfl) (by simp [Tryz.f84]) <| SW.seqR fun K0 hK0 => alTerm fun a0 σ0 n0 s0 hF0 => ?_
 have ne0 := ne_new n0 s_0
 have lo0 := F_0.lo1 n0
 have s1 := hF0.keep s_0 (by simp)
 have F0 := F_0.andThen hF0 Lo.nil
 refine R.done (hK0 _ _ (SW.seqR fun K1 hK1 => ld ti76 rfl s1 rfl (mv rfl ?_)))
 obtain ⟨z0, hr0, hM⟩ := bd hM
 refine cp (r_Index_int f o0c0_0 tko0c0_0 p_0 z0 hr0 _) rfl (oc rfl (oc rfl on)) (LeL.refl _) ?_
 obtain ⟨z1, hr1, hM⟩ := bd hM
 refine cp (r_i_variable f z0 z1 hr1 _) rfl (oc rfl on) (LeL.refl _) <| R.op rfl (a_store (cs' := [(I z1.kind), (I z1.n), (.str z1.name), (LTerm z1.kids .full)]) ti25 rfl rfl s0 rfl (nb rfl) rfl rfl fun σ1 s2 hF1 => ?_)
 have s3 := hF1.keep s1 (m1 ne0)
 have F1 := F0.andThen hF1 lo0
 refine R.done (hK1 _ _ (SW.ret ?_))
 obtain rfl := si hM
 exact ret_of (rcc ti25 rfl s2 rfl rn) (.agg [(I z1.kind), (I z1.n), (.str z1.name), (LTerm z1.kids .full)]) σ_0 (Le.refl _) F1.back ⟨rfl, rfl⟩

def L_i_mapVars__i_renumbered_1_1 (c_i_mapVars__i_renumbered_1 : STerm → (List Int) → Option STerm) (p_0 : STerm) (o0c0_0 : List Int) (J0 : List STerm → Option STerm) : Nat → Int → List STerm → Option STerm
 | 0, _, _ => none
 | n + 1, v0, v1 =>
 bif decide (v0 < (p_0.kids.length : Int)) then (
 bif decide (0 ≤ v0) then
 Option.bind (p_0.kids[(v0 : Int).toNat]?) fun x0 =>
 Option.bind (c_i_mapVars__i_renumbered_1 x0 o0c0_0) fun z0 =>
 bif decide (v1.length + ([z0]).length ≤ 4294967296) then
 L_i_mapVars__i_renumbered_1_1 c_i_mapVars__i_renumbered_1 p_0 o0c0_0 J0 n (IntKind.wrap .i64 (v0 + 1)) (v1 ++ ([z0]))
 else none
 else none
 ) else (
 J0 v1
 )

def B_i_mapVars__i_renumbered_1 (f : Nat) (c_i_mapVars__i_renumbered_1 : STerm → (List Int) → Option STerm) (p_0 : STerm) (o0c0_0 : List Int) : Option STerm :=
 bif (p_0.kind == 1) then (
 Option.bind (M_i_renumbered_1 f p_0.n o0c0_0) fun z1 =>
 some (z1)
 ) else (
 jn (fun (v2 : List STerm) => (
 some ((STerm.mk p_0.kind p_0.n p_0.name v2))
 )) fun J0 => (
 L_i_mapVars__i_renumbered_1_1 c_i_mapVars__i_renumbered_1 p_0 o0c0_0 J0 f 0 ([] : List STerm)
 )
 )

def M_i_mapVars__i_renumbered_1 : Nat → STerm → (List Int) → Option STerm
 | 0, _, _ => none
 | f + 1, p_0, o0c0_0 => B_i_mapVars__i_renumbered_1 f (M_i_mapVars__i_renumbered_1 f) p_0 o0c0_0

def Q_i_mapVars__i_renumbered_1 (c : STerm → (List Int) → Option STerm) : Prop := ∀ (p_0 : STerm) (a_0 : Nat) (o0c0_0 : List Int) (tko0c0_0 : Tk) (r : STerm), c p_0 o0c0_0 = some r → ∀ (σ_0 : St), (s_0 : σ_0 a_0 = some (.cells [(LI o0c0_0 tko0c0_0)])) → AC Tryz.prog 83 [(.agg (cTerm p_0)), (.fn 84 [(.ptr a_0 0)])] σ_0 (fun v s => v = (.agg (cTerm r)) ∧ s = σ_0)

theorem b_i_mapVars__i_renumbered_1 (f : Nat) {c_i_mapVars__i_renumbered_1 : STerm → (List Int) → Option STerm} (ih_i_mapVars__i_renumbered_1 : Q_i_mapVars__i_renumbered_1 c_i_mapVars__i_renumbered_1) : Q_i_mapVars__i_renumbered_1 (B_i_mapVars__i_renumbered_1 f c_i_mapVars__i_renumbered_1) := by
 intro p_0 a_0 o0c0_0 tko0c0_0 r hM σ_0 s_0
 have F_0 := Fr.refl σ_0 []
 unfold B_i_mapVars__i_renumbered_1 at hM
 refine AC.of_body Tryz.func83 rfl rfl (by rfl) (by simp [Tryz.f83]) <| SW.seqR fun K0 hK0 => R.op rfl (a_box (v := (.agg (cTerm p_0))) rfl rfl fun a0 σ0 n0 s0 hF0 => ?_)
 have ne0 := ne_new n0 s_0
 have lo0 := F_0.lo1 n0
 have s1 := hF0.keep s_0 (by simp)
 have F0 := F_0.andThen hF0 Lo.nil
 refine alTerm fun a1 σ1 n1 s2 hF1 => ?_
 have ne1 := ne_new n1 s1
 have ne2 := ne_new n1 s0
 have lo2 := F0.lo1 n1
 have s3 := hF1.keep s1 (by simp)
 have s4 := hF1.keep s0 (by simp)
 have F1 := F0.andThen hF1 Lo.nil
 refine R.done (hK0 _ _ (SW.seq (SW.seqR fun K1 hK1 => fp ti25 rfl rfl rfl (by decide) (ld ti3 rfl s4 rfl (it rfl rfl rfl (R.done (hK1 _ _ (SW.cond rfl (fun hb0 => ?_) (fun hb0 => ?_)))))))))
 · have hM := cT hb0 hM
   refine SW.seqR fun K2 hK2 => mv rfl <| fp ti25 rfl rfl rfl (by decide) <| ld ti3 rfl s4 rfl ?_
   obtain ⟨z1, hr0, hM⟩ := bd hM
   refine cp (r_i_renumbered_1 f p_0.n a_0 o0c0_0 tko0c0_0 z1 hr0 _ s3) rfl (oc rfl on) (LeL.refl _) <| R.op rfl (a_store (cs' := [(I z1.kind), (I z1.n), (.str z1.name), (LTerm z1.kids .full)]) ti25 rfl rfl s2 rfl (nb rfl) rfl rfl fun σ2 s5 hF2 => ?_)
   have s6 := hF2.keep s3 (m1 ne1)
   have s7 := hF2.keep s4 (m1 ne2)
   have F2 := F1.andThen hF2 lo2
   refine R.done (hK2 _ _ (SW.ret (Qt ?_)))
   obtain rfl := si hM
   exact ret_of (rcc ti25 rfl s5 rfl rn) (.agg (cTerm z1)) σ_0 (Le.agg (LeL.cons (Le.refl _) (LeL.cons (Le.refl _) (LeL.cons (Le.refl _) (LeL.cons (Le.tok _ _ _) LeL.nil))))) F2.back ⟨rfl, rfl⟩
 · have hM := cF hb0 hM
   refine SW.skip <| SW.seqR fun K3 hK3 => fp ti25 rfl rfl rfl (by decide) <| ld ti23 rfl s4 rfl <| sn rfl <| R.done (hK3 _ _ (SW.seqR fun K4 hK4 => fp ti25 rfl rfl rfl (by decide) (R.storeLe (v := (.imm 0 [] .full)) (cs' := [(I p_0.kind), (I p_0.n), (.str p_0.name), (LTerm ([] : List STerm) .full)]) ti23 rfl rfl s4 rfl (nb rfl) rfl (LeL.cons (Le.refl _) (LeL.cons (Le.refl _) (LeL.cons (Le.refl _) (LeL.cons (Le.empty' _ _ _ rfl) LeL.nil)))) fun σ3 s8 hF3 => ?_)))
   have s9 := hF3.keep s3 (m1 ne0)
   have sa := hF3.keep s2 (m1 (Ne.symm ne2))
   have F3 := F1.andThen hF3 lo0
   refine R.done (hK4 _ _ (SW.seqK fun K5 hK5 => ?_))
   obtain ⟨J0, eJ0, hM⟩ := jn_elim hM
   have hJ0 : ∀ (v2 : List STerm) (tk0 : Tk) (env0 : Env) (σ4 : St), Fr σ_0 σ4 [] → env0.get 2 = some (.ptr a0 0) → env0.get 4 = some (.ptr a1 0) → σ4 a_0 = some (.cells [(LI o0c0_0 tko0c0_0)]) → σ4 a1 = some (.cells [(I 0), (I 0), (.str (⟨#[]⟩ : ByteArray)), (LTerm ([] : List STerm) .full)]) → σ4 a0 = some (.cells [(I p_0.kind), (I p_0.n), (.str p_0.name), (LTerm v2 tk0)]) → TokOk σ4 tk0 v2.length 4 → Lo σ_0 [] (tkNames tk0) → J0 v2 = some r → K5 env0 σ4 := by
    intro v2 tk0 env0 σ4 F4 h0 h1 sb sc sd t0 lo3 hM
    subst eJ0
    refine hK5 _ _ <| SW.seqR fun K6 hK6 => ld (v := (.agg [(I p_0.kind), (I p_0.n), (.str p_0.name), (LTerm v2 tk0)])) ti25 h0 sd rfl <| R.op rfl (a_store (cs' := [(I p_0.kind), (I p_0.n), (.str p_0.name), (LTerm v2 tk0)]) ti25 h1 rfl sc rfl (nb rfl) rfl rfl fun σ5 se hF4 => ?_)
    have sf := hF4.keep sb (m1 ne1)
    have sg := hF4.keep sd (m1 ne2)
    have t1 := t0.keep hF4 (not1 (tok_cells t0 sc))
    have F5 := F4.andThen hF4 lo2
    refine R.done (hK6 _ _ (SW.ret ?_))
    obtain rfl := si hM
    exact ret_of (rcc ti25 h1 se rfl rn) (.agg (cTerm (STerm.mk p_0.kind p_0.n p_0.name v2))) σ_0 (Le.agg (LeL.cons (Le.refl _) (LeL.cons (Le.refl _) (LeL.cons (Le.refl _) (LeL.cons (Le.tok _ _ _) LeL.nil))))) F5.back ⟨rfl, rfl⟩
   clear eJ0
   refine SW.seqR fun K7 hK7 => mv rfl <| R.op rfl (a_lenImm ti23 rfl rfl (n := (p_0.kids.length : Int)) (by simp) (mv rfl (R.done (hK7 _ _ (SW.block (SW.loop (LW.ind (I := fun n2 env1 σ6 => ∃ (v0 : Int) (v1 : List STerm) (tk1 : Tk), Fr σ_0 σ6 [] ∧ env1.get 1 = some (.fn 84 [(.ptr a_0 0)]) ∧ env1.get 2 = some (.ptr a0 0) ∧ env1.get 4 = some (.ptr a1 0) ∧ env1.get 18 = some (LTerm p_0.kids .no) ∧ env1.get 19 = some (I (p_0.kids.length : Int)) ∧ env1.get 20 = some (I v0) ∧ σ6 a_0 = some (.cells [(LI o0c0_0 tko0c0_0)]) ∧ σ6 a1 = some (.cells [(I 0), (I 0), (.str (⟨#[]⟩ : ByteArray)), (LTerm ([] : List STerm) .full)]) ∧ σ6 a0 = some (.cells [(I p_0.kind), (I p_0.n), (.str p_0.name), (LTerm v1 tk1)]) ∧ TokOk σ6 tk1 v1.length 4 ∧ Lo σ_0 [] (tkNames tk1) ∧ L_i_mapVars__i_renumbered_1_1 c_i_mapVars__i_renumbered_1 p_0 o0c0_0 J0 n2 v0 v1 = some r) ?_ f _ _ ⟨0, ([] : List STerm), .full, F3, rfl, rfl, rfl, rfl, rfl, rfl, s9, sa, s8, trivial, Lo.full, hM⟩)))))))
   rintro n2 env1 σ6 ⟨v0, v1, tk1, F6, h2, h3, h4, h5, h6, h7, sh, sj, sk, t2, lo4, hM⟩
   cases n2 with
   | zero => (rw [L_i_mapVars__i_renumbered_1_1] at hM; cases hM)
   | succ n2 =>
    rw [L_i_mapVars__i_renumbered_1_1] at hM
    refine SW.seqR fun K8 hK8 => it h7 h6 rfl <| R.done (hK8 _ _ (SW.seq (SW.cond rfl (fun hb1 => ?_) (fun hb1 => ?_))))
    · have hM := cT hb1 hM
      refine SW.skip <| SW.seq <| SW.block <| SW.seqR fun K9 hK9 => ?_
      obtain ⟨hg0, hM⟩ := gd hM
      obtain ⟨x0, hx0, hM⟩ := bd hM
      refine R.op rfl (a_idxImm (f := eTerm) (xs := p_0.kids) (n := v0) (e := x0) (v := (.agg (cTerm x0))) ti23 rfl ti25 rfl h5 h7 (od hg0) hx0 (eTerm_eq x0) (li (v := (.agg (cTerm x0))) ti25 rfl rfl (alTerm fun a2 σ7 n3 sl hF5 => ?_)))
      have ne3 := ne_new n3 sh
      have ne4 := ne_new n3 sj
      have ne5 := ne_new n3 sk
      have lo5 := F6.lo1 n3
      have sm := hF5.keep sh (by simp)
      have so := hF5.keep sj (by simp)
      have sp := hF5.keep sk (by simp)
      have t3 := t2.keep hF5 (by simp)
      have F7 := F6.andThen hF5 Lo.nil
      refine R.op rfl (a_store (cs' := (cTerm x0)) ti25 rfl rfl sl rfl (nb rfl) rfl rfl fun σ8 sq hF6 => ?_)
      have sr := hF6.keep sm (m1 ne3)
      have ss := hF6.keep so (m1 ne4)
      have st := hF6.keep sp (m1 ne5)
      have t4 := t3.keep hF6 (not1 (tok_cells t3 sl))
      have F8 := F7.andThen hF6 lo5
      refine R.done (hK9 _ _ (SW.draw' mixed [(0, false), (3, false), (1, true), (2, false), (4, true), (5, false), (6, false), (7, false), (8, false)] [(a0, wLod ⟨1, 24, false, (some (.imm 0 [] .full)), (.slice 25)⟩ 3 (LTerm v1 tk1))] [] (by kernel_rfl) (by kernel_rfl) (fun t ht => by simp at ht) (D.op rfl rfl (a_fieldPtr ti25 rfl h3 rfl (by decide) (D.op rfl rfl (a_move h2 (D.rd rfl rfl (wat_lod st rfl wat_nil) (lk_load ti23 rfl (wat_lod st rfl wat_nil) (.head _)) rfl (a_loadPtr ti23 rfl st rfl (D.op rfl rfl (a_loadPtr (v := (.agg (cTerm x0))) ti25 rfl sq rfl ?_))))))))))
      obtain ⟨z0, hr1, hM⟩ := bd hM
      refine D.wk rfl rfl (wat_lod st rfl wat_nil) rfl (a_call (g := 83) rfl (oc rfl (oc rfl on)) (AC.goP (ih_i_mapVars__i_renumbered_1 x0 a_0 o0c0_0 tko0c0_0 z0 hr1 _ sr) (LeL.refl _) (⟨(wat_lod st rfl wat_nil), (D.op rfl rfl (a_buildSlice (v := (LTerm ([z0]) .full)) (bsv_of' (es := [(.agg (cTerm z0))]) ti23 rfl ti25 (pc rfl pn) rfl ⟨rfl, by decide, by decide, rfl⟩ (by simp only [List.map_cons, List.map_nil, eTerm_eq])) ?_))⟩)))
      obtain ⟨hg1, hM⟩ := gd hM
      refine D.op rfl rfl (a_append (es := List.map eTerm v1) (ds := List.map eTerm ([z0])) (rs := List.map eTerm (v1 ++ ([z0]))) ti23 rfl ti23 rfl ti25 rfl rfl (.inl rfl) rfl rfl (by decide) (by decide) (by simpa using od hg1) (.inl rfl) (t4.len (by first | rfl | simp)) (by simp) fun tk2 σ9 t5 hF7 nn0 => ?_)
      have lo6 := F8.loTk lo4 nn0
      have su := hF7.keep sr (tok_cells t4 sr)
      have sv := hF7.keep ss (tok_cells t4 ss)
      have sw := hF7.keep st (tok_cells t4 st)
      have sx := hF7.keep sq (tok_cells t4 sq)
      have F9 := F8.andThen hF7 lo4
      refine D.op rfl rfl (a_fieldPtr ti25 rfl h3 rfl (by decide) (D.op rfl rfl (a_store (cs' := [(I p_0.kind), (I p_0.n), (.str p_0.name), (LTerm (v1 ++ ([z0])) tk2)]) ti23 rfl rfl sw rfl (nb rfl) rfl rfl fun σa sy hF8 => ?_)))
      have sz := hF8.keep su (m1 ne0)
      have s10 := hF8.keep sv (m1 (Ne.symm ne2))
      have s11 := hF8.keep sx (m1 (Ne.symm ne5))
      have t6 := t5.keep hF8 (not1 (tok_cells t5 sw))
      have Fa := F9.andThen hF8 lo0
      refine D.done <| SW.region <| it h7 rfl rfl <| mv rfl <| R.done ?_
      exact ⟨n2, Nat.lt_succ_self _, (IntKind.wrap .i64 (v0 + 1)), (v1 ++ ([z0])), tk2, Fa, h2, h3, h4, h5, h6, rfl, sz, s10, sy, (t6.len (by first | rfl | simp)), lo6, hM⟩
    · have hM := cF hb1 hM
      refine SW.exit <| Qte <| Qte <| Qbx ?_
      exact hJ0 v1 tk1 _ _ F6 h3 h4 sh sj sk (t2.len (by first | rfl | simp)) lo4 hM

theorem rr_i_mapVars__i_renumbered_1 (f : Nat) : Q_i_mapVars__i_renumbered_1 (M_i_mapVars__i_renumbered_1 f) := by
 induction f with
 | zero => exact by intro p_0 a_0 o0c0_0 tko0c0_0 r hM; rw [M_i_mapVars__i_renumbered_1] at hM; cases hM
 | succ f ih => exact by intro p_0 a_0 o0c0_0 tko0c0_0 r hM; rw [M_i_mapVars__i_renumbered_1] at hM; exact b_i_mapVars__i_renumbered_1 f ih p_0 a_0 o0c0_0 tko0c0_0 r hM

theorem r_i_mapVars__i_renumbered_1 (f : Nat) : Q_i_mapVars__i_renumbered_1 (M_i_mapVars__i_renumbered_1 f) := (rr_i_mapVars__i_renumbered_1 f)

def L_i_renumbered_1 (f : Nat) (p_0 : (List STerm)) (z0 : (List Int)) (J0 : List STerm → Option (List STerm)) : Nat → List STerm → Int → Option (List STerm)
 | 0, _, _ => none
 | n + 1, v0, v1 =>
 bif decide (v1 < (p_0.length : Int)) then (
 bif decide (0 ≤ v1) then
 Option.bind (p_0[(v1 : Int).toNat]?) fun x0 =>
 Option.bind (M_i_mapVars__i_renumbered_1 f x0 z0) fun z1 =>
 bif decide (v0.length + ([z1]).length ≤ 4294967296) then
 L_i_renumbered_1 f p_0 z0 J0 n (v0 ++ ([z1])) (IntKind.wrap .i64 (v1 + 1))
 else none
 else none
 ) else (
 J0 v0
 )

def M_i_renumbered (f : Nat) (p_0 : (List STerm)) : Option (List STerm) :=
 Option.bind (M_i_varsOf f p_0) fun z0 =>
 jn (fun (v2 : List STerm) => (
 some (v2)
 )) fun J0 => (
 L_i_renumbered_1 f p_0 z0 J0 f ([] : List STerm) 0
 )

theorem r_i_renumbered (f : Nat) (p_0 : (List STerm)) (tk_0 : Tk) (r : (List STerm)) (hM : M_i_renumbered f p_0 = some r) (σ_0 : St) : AC Tryz.prog 41 [(LTerm p_0 tk_0)] σ_0 (fun v s => v = (LTerm r .no) ∧ s = σ_0) := by
 have F_0 := Fr.refl σ_0 []
 unfold M_i_renumbered at hM
 refine AC.of_body Tryz.func41 rfl rfl (by rfl) (by simp [Tryz.f41]) <| SW.seqR fun K0 hK0 => R.opLe rfl (a_assign (v := (.imm 0 [] .full)) rfl ⟨(LTerm ([] : List STerm) .full), Le.empty' _ _ _ rfl, (R.done (hK0 _ _ (SW.seqR fun K1 hK1 => mv rfl ?_)))⟩)
 obtain ⟨z0, hr0, hM⟩ := bd hM
 refine cp (r_i_varsOf f p_0 tk_0 z0 hr0 _) rfl (oc rfl on) (LeL.refl _) <| R.allocLe (z := (.imm 0 [] .full)) (cs := [(LI ([] : List Int) .full)]) ti76 rfl (LeL.cons (Le.empty' _ _ _ rfl) LeL.nil) fun a0 σ0 n0 s0 hF0 => ?_
 have lo0 := F_0.lo1 n0
 have F0 := F_0.andThen hF0 Lo.nil
 refine R.op rfl (a_store (cs' := [(LI z0 .no)]) ti76 rfl rfl s0 rfl (nb rfl) rfl rfl fun σ1 s1 hF1 => ?_)
 have F1 := F0.andThen hF1 lo0
 refine R.done (hK1 _ _ (SW.seqR fun K2 hK2 => R.opLe rfl (a_assign (v := (.imm 0 [] .full)) rfl ⟨(LTerm ([] : List STerm) .full), Le.empty' _ _ _ rfl, (R.done (hK2 _ _ (SW.seqK fun K3 hK3 => ?_)))⟩)))
 obtain ⟨J0, eJ0, hM⟩ := jn_elim hM
 have hJ0 : ∀ (v2 : List STerm) (tk0 : Tk) (env0 : Env) (σ2 : St), Fr σ_0 σ2 [] → env0.get 4 = some (LTerm v2 tk0) → σ2 a0 = some (.cells [(LI z0 .no)]) → TokOk σ2 tk0 v2.length 4 → Lo σ_0 [] (tkNames tk0) → J0 v2 = some r → K3 env0 σ2 := by
  intro v2 tk0 env0 σ2 F2 h0 s2 t0 lo2 hM
  subst eJ0
  refine hK3 _ _ <| SW.seqR fun K4 hK4 => mv h0 <| sn rfl <| R.done (hK4 _ _ (SW.ret ?_))
  obtain rfl := si hM
  exact ret_of (rc rfl rn) (LTerm v2 .no) σ_0 (Le.tok _ _ _) F2.back ⟨rfl, rfl⟩
 clear eJ0
 refine SW.seqR fun K5 hK5 => mv rfl <| R.op rfl (a_lenImm ti23 rfl rfl (n := (p_0.length : Int)) (by simp) (mv rfl (R.done (hK5 _ _ (SW.block (SW.loop (LW.ind (I := fun n1 env1 σ3 => ∃ (v0 : List STerm) (v1 : Int) (tk1 : Tk), Fr σ_0 σ3 [] ∧ env1.get 3 = some (.ptr a0 0) ∧ env1.get 4 = some (LTerm v0 tk1) ∧ env1.get 9 = some (LTerm p_0 tk_0) ∧ env1.get 10 = some (I (p_0.length : Int)) ∧ env1.get 11 = some (I v1) ∧ σ3 a0 = some (.cells [(LI z0 .no)]) ∧ TokOk σ3 tk1 v0.length 4 ∧ Lo σ_0 [] (tkNames tk1) ∧ L_i_renumbered_1 f p_0 z0 J0 n1 v0 v1 = some r) ?_ f _ _ ⟨([] : List STerm), 0, .full, F1, rfl, rfl, rfl, rfl, rfl, s1, trivial, Lo.full, hM⟩)))))))
 rintro n1 env1 σ3 ⟨v0, v1, tk1, F3, h1, h2, h3, h4, h5, s3, t1, lo3, hM⟩
 cases n1 with
 | zero => (rw [L_i_renumbered_1] at hM; cases hM)
 | succ n1 =>
  rw [L_i_renumbered_1] at hM
  refine SW.seqR fun K6 hK6 => it h5 h4 rfl <| R.done (hK6 _ _ (SW.seq (SW.cond rfl (fun hb0 => ?_) (fun hb0 => ?_))))
  · have hM := cT hb0 hM
    refine SW.skip <| SW.seq <| SW.block <| SW.seqR fun K7 hK7 => ?_
    obtain ⟨hg0, hM⟩ := gd hM
    obtain ⟨x0, hx0, hM⟩ := bd hM
    refine R.op rfl (a_idxImm (f := eTerm) (xs := p_0) (n := v1) (e := x0) (v := (.agg (cTerm x0))) ti23 rfl ti25 rfl h3 h5 (od hg0) hx0 (eTerm_eq x0) (li (v := (.agg (cTerm x0))) ti25 rfl rfl (alTerm fun a1 σ4 n2 s4 hF2 => ?_)))
    have ne0 := ne_new n2 s3
    have lo4 := F3.lo1 n2
    have s5 := hF2.keep s3 (by simp)
    have t2 := t1.keep hF2 (by simp)
    have F4 := F3.andThen hF2 Lo.nil
    refine R.op rfl (a_store (cs' := (cTerm x0)) ti25 rfl rfl s4 rfl (nb rfl) rfl rfl fun σ5 s6 hF3 => ?_)
    have s7 := hF3.keep s5 (m1 ne0)
    have t3 := t2.keep hF3 (not1 (tok_cells t2 s4))
    have F5 := F4.andThen hF3 lo4
    refine R.done (hK7 _ _ (SW.region (mv h2 (ld (v := (.agg (cTerm x0))) ti25 rfl s6 rfl (R.op rfl (a_makeFunc rfl (oc h1 on) ?_))))))
    obtain ⟨z1, hr1, hM⟩ := bd hM
    refine cp (r_i_mapVars__i_renumbered_1 f x0 a0 z0 .no z1 hr1 _ s7) rfl (oc rfl (oc rfl on)) (LeL.refl _) <| R.op rfl (a_buildSlice (v := (LTerm ([z1]) .full)) (bsv_of' (es := [(.agg (cTerm z1))]) ti23 rfl ti25 (pc rfl pn) rfl ⟨rfl, by decide, by decide, rfl⟩ (by simp only [List.map_cons, List.map_nil, eTerm_eq])) ?_)
    obtain ⟨hg1, hM⟩ := gd hM
    refine R.op rfl (a_append (es := List.map eTerm v0) (ds := List.map eTerm ([z1])) (rs := List.map eTerm (v0 ++ ([z1]))) ti23 rfl ti23 rfl ti25 rfl rfl (.inl rfl) rfl rfl (by decide) (by decide) (by simpa using od hg1) (.inl rfl) (t3.len (by first | rfl | simp)) (by simp) fun tk2 σ6 t4 hF4 nn0 => ?_)
    have lo5 := F5.loTk lo3 nn0
    have s8 := hF4.keep s7 (tok_cells t3 s7)
    have s9 := hF4.keep s6 (tok_cells t3 s6)
    have F6 := F5.andThen hF4 lo3
    refine sn rfl <| R.done <| SW.region <| it h5 rfl rfl <| mv rfl <| R.done ?_
    exact ⟨n1, Nat.lt_succ_self _, (v0 ++ ([z1])), (IntKind.wrap .i64 (v1 + 1)), tk2, F6, h1, rfl, h3, h4, rfl, s8, (t4.len (by first | rfl | simp)), lo5, hM⟩
  · have hM := cF hb0 hM
    refine SW.exit <| Qte <| Qte <| Qbx ?_
    exact hJ0 v0 tk1 _ _ F3 h2 s3 (t1.len (by first | rfl | simp)) lo3 hM

def M_Clip_Term (f : Nat) (p_0 : (List STerm)) : Option (List STerm) :=
 bif decide (0 ≤ (p_0.length : Int)) then
 bif decide (0 ≤ ((p_0.length : Int) : Int).toNat) then
 bif decide (((p_0.length : Int) : Int).toNat ≤ p_0.length) then
 some ((List.take (((p_0.length : Int) : Int).toNat - 0) (List.drop 0 p_0)))
 else none
 else none
 else none

theorem r_Clip_Term (f : Nat) (p_0 : (List STerm)) (tk_0 : Tk) (r : (List STerm)) (hM : M_Clip_Term f p_0 = some r) (σ_0 : St) : AC Tryz.prog 66 [(LTerm p_0 tk_0)] σ_0 (fun v s => v = (LTerm r .full) ∧ s = σ_0) := by
 have F_0 := Fr.refl σ_0 []
 unfold M_Clip_Term at hM
 refine AC.of_body Tryz.func66 rfl rfl (by rfl) (by simp [Tryz.f66]) <| SW.seqR fun K0 hK0 => R.opLe rfl (a_assign (v := (.imm 0 [] .full)) rfl ⟨(LTerm ([] : List STerm) .full), Le.empty' _ _ _ rfl, (R.done (hK0 _ _ (SW.seqR fun K1 hK1 => mv rfl (mv rfl (R.op rfl (a_lenImm ti23 rfl rfl (n := (p_0.length : Int)) (by simp) (mv rfl (R.op rfl (a_lenImm ti23 rfl rfl (n := (p_0.length : Int)) (by simp) ?_)))))))))⟩)
 obtain ⟨hg0, hM⟩ := gd hM
 obtain ⟨hg1, hM⟩ := gd hM
 obtain ⟨hg2, hM⟩ := gd hM
 refine R.op rfl (a_clip (f := eTerm) (xs := p_0) (l := 0) (n := (p_0.length : Int)) ti23 rfl ti25 rfl rfl lowN rfl rfl (od hg0) (od hg1) (od hg2) (sn rfl (R.done (hK1 _ _ (SW.ret ?_)))))
 obtain rfl := si hM
 exact ret_of (rc rfl rn) (LTerm (List.take (((p_0.length : Int) : Int).toNat - 0) (List.drop 0 p_0)) .full) σ_0 (Le.refl _) F_0.back ⟨rfl, rfl⟩

def M_i_numbered (f : Nat) (p_0 : SClause) : Option SClause :=
 bif decide (([p_0.head]).length + p_0.body.length ≤ 4294967296) then
 Option.bind (M_i_renumbered f (([p_0.head]) ++ p_0.body)) fun z0 =>
 Option.bind (z0[(0 : Int).toNat]?) fun x0 =>
 bif decide ((1 : Int).toNat ≤ z0.length) then
 Option.bind (M_Clip_Term f (List.take (z0.length - (1 : Int).toNat) (List.drop ((1 : Int).toNat) z0))) fun z1 =>
 some ((SClause.mk x0 z1))
 else none
 else none

theorem r_i_numbered (f : Nat) (p_0 : SClause) (r : SClause) (hM : M_i_numbered f p_0 = some r) (σ_0 : St) : AC Tryz.prog 27 [(.agg (cClause p_0))] σ_0 (fun v s => v = (.agg [(I r.head.kind), (I r.head.n), (.str r.head.name), (LTerm r.head.kids .no), (LTerm r.body .full)]) ∧ s = σ_0) := by
 have F_0 := Fr.refl σ_0 []
 unfold M_i_numbered at hM
 refine AC.of_body Tryz.func27 rfl rfl (by rfl) (by simp [Tryz.f27]) <| SW.seqR fun K0 hK0 => R.op rfl (a_box (v := (.agg (cClause p_0))) rfl rfl fun a0 σ0 n0 s0 hF0 => ?_)
 have lo0 := F_0.lo1 n0
 have F0 := F_0.andThen hF0 Lo.nil
 refine alClause fun a1 σ1 n1 s1 hF1 => ?_
 have ne0 := ne_new n1 s0
 have lo2 := F0.lo1 n1
 have s2 := hF1.keep s0 (by simp)
 have F1 := F0.andThen hF1 Lo.nil
 refine R.done (hK0 _ _ (SW.seqR fun K1 hK1 => fp ti27 rfl rfl rfl (by decide) (ld (v := (.agg (cTerm p_0.head))) ti25 rfl s2 rfl (R.op rfl (a_buildSlice (v := (LTerm ([p_0.head]) .full)) (bsv_of' (es := [(.agg (cTerm p_0.head))]) ti23 rfl ti25 (pc rfl pn) rfl ⟨rfl, by decide, by decide, rfl⟩ (by simp only [List.map_cons, List.map_nil, eTerm_eq])) (fp ti27 rfl rfl rfl (by decide) (ld ti23 rfl s2 rfl ?_)))))))
 obtain ⟨hg0, hM⟩ := gd hM
 refine R.op rfl (a_append (es := List.map eTerm ([p_0.head])) (ds := List.map eTerm p_0.body) (rs := List.map eTerm (([p_0.head]) ++ p_0.body)) ti23 rfl ti23 rfl ti25 rfl rfl (.inl rfl) rfl rfl (by decide) (by decide) (by simpa using od hg0) (.inl rfl) trivial (by simp) fun tk0 σ2 t0 hF2 nn0 => ?_)
 have lo3 := F1.loTk Lo.full nn0
 have s3 := hF2.keep s2 (by simp [tkNames])
 have s4 := hF2.keep s1 (by simp [tkNames])
 have F2 := F1.andThen hF2 Lo.full
 obtain ⟨z0, hr0, hM⟩ := bd hM
 refine cp (r_i_renumbered f (([p_0.head]) ++ p_0.body) tk0 z0 hr0 _) rfl (oc rfl on) (LeL.refl _) <| sn rfl <| R.done (hK1 _ _ (SW.seqK fun K2 hK2 => SW.draw' mixed [(0, false), (1, false), (3, false), (4, false), (2, true), (5, true), (6, false), (7, false)] [] [] (by kernel_rfl) (by kernel_rfl) (fun t ht => by simp at ht) (D.op rfl rfl (a_move rfl ?_))))
 obtain ⟨x0, hx0, hM⟩ := bd hM
 refine D.op rfl rfl (a_idxImm (f := eTerm) (xs := z0) (n := 0) (e := x0) (v := (.agg (cTerm x0))) ti23 rfl ti25 rfl rfl rfl (by decide) hx0 (eTerm_eq x0) (D.op rfl rfl (a_move rfl ?_)))
 obtain ⟨hg1, hM⟩ := gd hM
 refine D.op rfl rfl (a_sliceImm (f := eTerm) (xs := z0) (l := (1 : Int).toNat) (h := z0.length) ti23 rfl ti25 rfl rfl (lowS rfl (by decide)) highN (od hg1) (Nat.le_refl _) (D.rd rfl rfl wat_nil (lk_iptr rfl) rfl (a_loadIptr (v := (.agg (cTerm x0))) ti25 rfl rfl ?_)))
 obtain ⟨z1, hr1, hM⟩ := bd hM
 refine D.wk rfl rfl wat_nil rfl (a_call (g := 66) rfl (oc rfl on) (AC.goP (r_Clip_Term f (List.take (z0.length - (1 : Int).toNat) (List.drop ((1 : Int).toNat) z0)) .no z1 hr1 _) (LeL.refl _) (⟨wat_nil, (D.op rfl rfl (a_build (cs := [(I x0.kind), (I x0.n), (.str x0.name), (LTerm x0.kids .no), (LTerm z1 .full)]) ti27 rfl rfl (pc rfl (pc rfl pn)) rfl (D.op rfl rfl (a_store (cs' := [(I x0.kind), (I x0.n), (.str x0.name), (LTerm x0.kids .no), (LTerm z1 .full)]) ti27 rfl rfl s4 rfl (nb rfl) rfl rfl fun σ3 s5 hF3 => ?_))))⟩)))
 have F3 := F2.andThen hF3 lo2
 refine D.done (hK2 _ _ (SW.ret ?_))
 obtain rfl := si hM
 exact ret_of (rcc ti27 rfl s5 rfl rn) (.agg [(I ((SClause.mk x0 z1).head.kind)), (I ((SClause.mk x0 z1).head.n)), (.str ((SClause.mk x0 z1).head.name)), (LTerm ((SClause.mk x0 z1).head.kids) .no), (LTerm ((SClause.mk x0 z1).body) .full)]) σ_0 (Le.refl _) F3.back ⟨rfl, rfl⟩

def M_i_RenumberClause (f : Nat) (p_0 : SClause) : Option (SClause × Bool) :=
 Option.bind (M_i_ClauseValid f p_0) fun z0 =>
 bif (!z0) then (
 some ((SClause.mk (STerm.mk 0 0 (⟨#[]⟩ : ByteArray) ([] : List STerm)) ([] : List STerm)), false)
 ) else (
 Option.bind (M_i_numbered f p_0) fun z1 =>
 Option.bind (M_i_ownClause f z1) fun z2 =>
 some (z2, true)
 )

theorem r_i_RenumberClause (f : Nat) (p_0 : SClause) (r : SClause × Bool) (hM : M_i_RenumberClause f p_0 = some r) (σ_0 : St) : AC Tryz.prog 7 [(.agg (cClause p_0))] σ_0 (fun v s => v = (.tup [(.agg (cClause r.1)), (.bool r.2)]) ∧ s = σ_0) := by
 have F_0 := Fr.refl σ_0 []
 unfold M_i_RenumberClause at hM
 refine AC.of_body Tryz.func7 rfl rfl (by rfl) (by simp [Tryz.f7]) <| SW.seqR fun K0 hK0 => R.op rfl (a_box (v := (.agg (cClause p_0))) rfl rfl fun a0 σ0 n0 s0 hF0 => ?_)
 have lo0 := F_0.lo1 n0
 have F0 := F_0.andThen hF0 Lo.nil
 refine alClause fun a1 σ1 n1 s1 hF1 => ?_
 have ne0 := ne_new n1 s0
 have lo2 := F0.lo1 n1
 have s2 := hF1.keep s0 (by simp)
 have F1 := F0.andThen hF1 Lo.nil
 refine sn rfl <| R.done (hK0 _ _ (SW.seq (SW.seqR fun K1 hK1 => ld (v := (.agg (cClause p_0))) ti27 rfl s2 rfl ?_)))
 obtain ⟨z0, hr0, hM⟩ := bd hM
 refine cp (r_i_ClauseValid f p_0 z0 hr0 _) rfl (oc rfl on) (LeL.refl _) <| no rfl <| R.done (hK1 _ _ (SW.cond rfl (fun hb0 => ?_) (fun hb0 => ?_)))
 · have hM := cT hb0 hM
   refine SW.seqR fun K2 hK2 => R.opLe rfl (a_build (cs := [(I 0), (I 0), (.str (⟨#[]⟩ : ByteArray)), (.imm 0 [] .full), (.imm 0 [] .full)]) ti27 rfl rfl pn rfl ⟨(.agg [(I 0), (I 0), (.str (⟨#[]⟩ : ByteArray)), (LTerm ([] : List STerm) .full), (LTerm ([] : List STerm) .full)]), Le.agg (LeL.cons (Le.refl _) (LeL.cons (Le.refl _) (LeL.cons (Le.refl _) (LeL.cons (Le.empty' _ _ _ rfl) (LeL.cons (Le.empty' _ _ _ rfl) LeL.nil))))), (R.op rfl (a_store (cs' := [(I 0), (I 0), (.str (⟨#[]⟩ : ByteArray)), (LTerm ([] : List STerm) .full), (LTerm ([] : List STerm) .full)]) ti27 rfl rfl s1 rfl (nb rfl) rfl rfl fun σ2 s3 hF2 => ?_))⟩)
   have F2 := F1.andThen hF2 lo2
   refine sn rfl <| R.done (hK2 _ _ (SW.ret (Qt ?_)))
   obtain rfl := si hM
   exact ret_of (rcc ti27 rfl s3 rfl (rc rfl rn)) (.tup [(.agg (cClause (SClause.mk (STerm.mk 0 0 (⟨#[]⟩ : ByteArray) ([] : List STerm)) ([] : List STerm)))), (.bool false)]) σ_0 (Le.tup (LeL.cons (Le.agg (LeL.cons (Le.refl _) (LeL.cons (Le.refl _) (LeL.cons (Le.refl _) (LeL.cons (Le.tok _ _ _) (LeL.cons (Le.tok _ _ _) LeL.nil)))))) (LeL.cons (Le.refl _) LeL.nil))) F2.back ⟨rfl, rfl⟩
 · have hM := cF hb0 hM
   refine SW.skip <| SW.seqR fun K3 hK3 => ld (v := (.agg (cClause p_0))) ti27 rfl s2 rfl ?_
   obtain ⟨z1, hr1, hM⟩ := bd hM
   refine cp (r_i_numbered f p_0 z1 hr1 _) rfl (oc rfl on) (LeL.refl _) ?_
   obtain ⟨z2, hr2, hM⟩ := bd hM
   refine cp (r_i_ownClause f z1 z2 hr2 _) rfl (oc rfl on) (LeL.cons (Le.agg (LeL.cons (Le.refl _) (LeL.cons (Le.refl _) (LeL.cons (Le.refl _) (LeL.cons (Le.refl _) (LeL.cons (Le.tok _ _ _) LeL.nil)))))) LeL.nil) <| R.op rfl (a_store (cs' := (cClause z2)) ti27 rfl rfl s1 rfl (nb rfl) rfl rfl fun σ3 s4 hF3 => ?_)
   have s5 := hF3.keep s2 (m1 ne0)
   have F3 := F1.andThen hF3 lo2
   refine sn rfl <| R.done (hK3 _ _ (SW.ret ?_))
   obtain rfl := si hM
   exact ret_of (rcc ti27 rfl s4 rfl (rc rfl rn)) (.tup [(.agg (cClause z2)), (.bool true)]) σ_0 (Le.refl _) F3.back ⟨rfl, rfl⟩

def M_i_newCoding (f : Nat) : Option (Int × List SInstr × List (Int × Int)) :=
 some (4, ([] : List SInstr), ([] : List (Int × Int)))

theorem r_i_newCoding (f : Nat) (r : Int × List SInstr × List (Int × Int)) (hM : M_i_newCoding f = some r) (σ_0 : St) : AC Tryz.prog 67 [] σ_0 (fun v s => ∃ (b_0 : Nat) (b_1 : Nat) (tkr_0 : Tk), v = (.ptr b_0 0) ∧ TokOk s tkr_0 r.2.1.length 4 ∧ (∀ i ∈ tkNames tkr_0, i ∈ [] ∨ σ_0 i = none) ∧ s b_0 = some (.cells [(.mp b_1), (I r.1), (LInstr r.2.1 tkr_0)]) ∧ (∀ i ∈ [b_0], i ∈ [] ∨ σ_0 i = none) ∧ s b_1 = some (.map (List.map (fun e_ => ((AV.int .i64) e_.1, (AV.int .i64) e_.2)) r.2.2)) ∧ (∀ i ∈ [b_1], i ∈ [] ∨ σ_0 i = none) ∧ b_0 ≠ b_1 ∧ Fr σ_0 s []) := by
 have F_0 := Fr.refl σ_0 []
 unfold M_i_newCoding at hM
 refine AC.of_body Tryz.func67 rfl rfl (by rfl) (by simp [Tryz.f67]) <| SW.seqR fun K0 hK0 => sn rfl <| R.done (hK0 _ _ (SW.seqR fun K1 hK1 => R.op rfl (a_makeMap fun a0 σ0 n0 s0 hF0 => ?_)))
 have lo0 := F_0.lo1 n0
 have F0 := F_0.andThen hF0 Lo.nil
 refine R.opLe rfl (a_build (cs := [(.mp a0), (I 4), (.imm 0 [] .full)]) ti134 rfl rfl (pc rfl (pc rfl pn)) rfl ⟨(.agg [(.mp a0), (I 4), (LInstr ([] : List SInstr) .full)]), Le.agg (LeL.cons (Le.refl _) (LeL.cons (Le.refl _) (LeL.cons (Le.empty' _ _ _ rfl) LeL.nil))), (R.op rfl (a_box (v := (.agg [(.mp a0), (I 4), (LInstr ([] : List SInstr) .full)])) rfl rfl fun a1 σ1 n1 s1 hF1 => ?_))⟩)
 have ne0 := ne_new n1 s0
 have lo2 := F0.lo1 n1
 have s2 := hF1.keep s0 (by simp)
 have F1 := F0.andThen hF1 Lo.nil
 refine sn rfl <| R.done (hK1 _ _ (SW.ret ?_))
 obtain rfl := si hM
 exact ret_of (rc rfl rn) (.ptr a1 0) _ (Le.refl _) (StLe.refl _) ⟨a1, a0, .full, rfl, trivial, Lo.full.nn, s1, lo2.nn, s2, lo0.nn, (Ne.symm ne0), F1⟩

def M_i_coding_add (f : Nat) (p_1 : SInstr) (o0c1_0 : Int) (o0c2_0 : List SInstr) (o1m_0 : List (Int × Int)) : Option (List SInstr) :=
 bif decide (o0c2_0.length + ([p_1]).length ≤ 4294967296) then
 some ((o0c2_0 ++ ([p_1])))
 else none

theorem r_i_coding_add (f : Nat) (p_1 : SInstr) (a_0 : Nat) (o0c1_0 : Int) (o0c2_0 : List SInstr) (tko0c2_0 : Tk) (a_1 : Nat) (o1m_0 : List (Int × Int)) (r : List SInstr) (hM : M_i_coding_add f p_1 o0c1_0 o0c2_0 o1m_0 = some r) (σ_0 : St) (s_0 : σ_0 a_0 = some (.cells [(.mp a_1), (I o0c1_0), (LInstr o0c2_0 tko0c2_0)])) (s_1 : σ_0 a_1 = some (.map (List.map (fun e_ => ((AV.int .i64) e_.1, (AV.int .i64) e_.2)) o1m_0))) (to0c2_0 : TokOk σ_0 tko0c2_0 o0c2_0.length 4) (ne_0_1 : a_0 ≠ a_1) : AC Tryz.prog 107 [(.ptr a_0 0), (.agg (cInstr p_1))] σ_0 (fun v s => ∃ (tkr_0 : Tk), v = (.tup []) ∧ s a_0 = some (.cells [(.mp a_1), (I o0c1_0), (LInstr r tkr_0)]) ∧ TokOk s tkr_0 r.length 4 ∧ (∀ i ∈ tkNames tkr_0, i ∈ ([a_0] ++ tkNames tko0c2_0) ∨ σ_0 i = none) ∧ Fr σ_0 s ([a_0] ++ tkNames tko0c2_0)) := by
 have F_0 := Fr.refl σ_0 ([a_0] ++ tkNames tko0c2_0)
 unfold M_i_coding_add at hM
 refine AC.of_body Tryz.func107 rfl rfl (by rfl) (by simp [Tryz.f107]) <| SW.seqR fun K0 hK0 => R.op rfl (a_box (v := (.agg (cInstr p_1))) rfl rfl fun a0 σ0 n0 s0 hF0 => ?_)
 have ne0 := ne_new n0 s_0
 have ne1 := ne_new n0 s_1
 have lo0 := F_0.lo1 n0
 have s1 := hF0.keep s_0 (by simp)
 have s2 := hF0.keep s_1 (by simp)
 have t0 := to0c2_0.keep hF0 (by simp)
 have F0 := F_0.andThen hF0 Lo.nil
 refine R.done (hK0 _ _ (SW.draw' mixed [(0, false), (1, false), (2, false), (3, false), (4, false), (5, false), (6, false), (7, false), (8, false), (9, false), (10, false)] [] [] (by kernel_rfl) (by kernel_rfl) (fun t ht => by simp at ht) (D.op rfl rfl (a_move rfl (D.op rfl rfl (a_move rfl (D.op rfl rfl (a_nilPtr rfl (D.op rfl rfl (a_fieldPtr ti134 rfl rfl rfl (by decide) (D.op rfl rfl (a_loadPtr ti31 rfl s1 rfl (D.op rfl rfl (a_loadPtr (v := (.agg (cInstr p_1))) ti57 rfl s0 rfl (D.op rfl rfl (a_buildSlice (v := (LInstr ([p_1]) .full)) (bsv_of ti31 rfl ti57 (pc rfl pn) rfl ⟨rfl, by decide, by decide, rfl⟩) ?_))))))))))))))))
 obtain ⟨hg0, hM⟩ := gd hM
 refine D.op rfl rfl (a_append (es := List.map eInstr o0c2_0) (ds := List.map eInstr ([p_1])) (rs := List.map eInstr (o0c2_0 ++ ([p_1]))) ti31 rfl ti31 rfl ti57 rfl rfl (.inl rfl) rfl rfl (by decide) (by decide) (by simpa using od hg0) (.inl rfl) (t0.len (by first | rfl | simp)) (by simp) fun tk0 σ1 t1 hF1 nn0 => ?_)
 have lo2 := F0.loTk (Lo.mem fun j_ hj_ => (List.mem_append_right _ hj_)) nn0
 have s3 := hF1.keep s1 (tok_cells t0 s1)
 have s4 := hF1.keep s2 (tok_map t0 s2)
 have s5 := hF1.keep s0 (tok_cells t0 s0)
 have F1 := F0.andThen hF1 (Lo.mem fun j_ hj_ => (List.mem_append_right _ hj_))
 refine D.op rfl rfl (a_nilPtr rfl (D.op rfl rfl (a_fieldPtr ti134 rfl rfl rfl (by decide) (D.op rfl rfl (a_store (cs' := [(.mp a_1), (I o0c1_0), (LInstr (o0c2_0 ++ ([p_1])) tk0)]) ti31 rfl rfl s3 rfl (nb rfl) rfl rfl fun σ2 s6 hF2 => ?_)))))
 have s7 := hF2.keep s4 (m1 (Ne.symm ne_0_1))
 have s8 := hF2.keep s5 (m1 (Ne.symm ne0))
 have t2 := t1.keep hF2 (not1 (tok_cells t1 s3))
 have F2 := F1.andThen hF2 (Lo.mem fun j_ hj_ => (ml _ hj_))
 refine D.done ?_
 obtain rfl := si hM
 show retQ _ _ _ .normal _ _
 exact end_of rn (.tup []) _ (Le.refl _) (StLe.refl _) ⟨tk0, rfl, s6, (t2.len (by first | rfl | simp)), lo2.nn, F2⟩

def M_i_coding_slot (f : Nat) (o0c1_0 : Int) (o0c2_0 : List SInstr) (o1m_0 : List (Int × Int)) : Option (Int × Int) :=
 some ((IntKind.wrap .i64 ((IntKind.wrap .i64 (o0c1_0 + 1)) - 1)), (IntKind.wrap .i64 (o0c1_0 + 1)))

theorem r_i_coding_slot (f : Nat) (a_0 : Nat) (o0c1_0 : Int) (o0c2_0 : List SInstr) (tko0c2_0 : Tk) (a_1 : Nat) (o1m_0 : List (Int × Int)) (r : Int × Int) (hM : M_i_coding_slot f o0c1_0 o0c2_0 o1m_0 = some r) (σ_0 : St) (s_0 : σ_0 a_0 = some (.cells [(.mp a_1), (I o0c1_0), (LInstr o0c2_0 tko0c2_0)])) (s_1 : σ_0 a_1 = some (.map (List.map (fun e_ => ((AV.int .i64) e_.1, (AV.int .i64) e_.2)) o1m_0))) (ne_0_1 : a_0 ≠ a_1) : AC Tryz.prog 109 [(.ptr a_0 0)] σ_0 (fun v s => v = (I r.1) ∧ s a_0 = some (.cells [(.mp a_1), (I r.2), (LInstr o0c2_0 tko0c2_0)]) ∧ Fr σ_0 s [a_0]) := by
 have F_0 := Fr.refl σ_0 [a_0]
 unfold M_i_coding_slot at hM
 refine AC.of_body Tryz.func109 rfl rfl (by rfl) (by simp [Tryz.f109]) <| SW.seqR fun K0 hK0 => sn rfl <| R.done (hK0 _ _ (SW.seqR fun K1 hK1 => mv rfl (np rfl (fp ti134 rfl rfl rfl (by decide) (ld ti3 rfl s_0 rfl (it rfl rfl rfl (np rfl (fp ti134 rfl rfl rfl (by decide) (R.op rfl (a_store (cs' := [(.mp a_1), (I (IntKind.wrap .i64 (o0c1_0 + 1))), (LInstr o0c2_0 tko0c2_0)]) ti3 rfl rfl s_0 rfl (nb rfl) rfl rfl fun σ0 s0 hF0 => ?_))))))))))
 have s1 := hF0.keep s_1 (m1 (Ne.symm ne_0_1))
 have F0 := F_0.andThen hF0 (Lo.mem fun j_ hj_ => hj_)
 refine R.done (hK1 _ _ (SW.seqR fun K2 hK2 => mv rfl (np rfl (fp ti134 rfl rfl rfl (by decide) (ld ti3 rfl s0 rfl (it rfl rfl rfl (sn rfl (R.done (hK2 _ _ (SW.ret ?_))))))))))
 obtain rfl := si hM
 exact ret_of (rc rfl rn) (I (IntKind.wrap .i64 ((IntKind.wrap .i64 (o0c1_0 + 1)) - 1))) _ (Le.refl _) (StLe.refl _) ⟨rfl, s0, F0⟩

end Go.Am
