/-
  Walks of functions, printed by wip/py/gen2.py.
-/
import Derived.Test.YtbmlendfheakeaaGreatW2
namespace Go.Am
open Go.Proofs
set_option maxRecDepth 100000
set_option linter.unusedVariables false

def M_s_l2Infix (f : Nat) (p_0 : STerm) : Option Bool :=
 jn (fun (v0 : Bool) => (
 some (v0)
 )) fun J0 => (
 bif (p_0.kind == 3) then (
 bif ((p_0.kids.length : Int) == 2) then (
 Option.bind (M_s_l2Level f p_0.name) fun z0 =>
 J0 (decide (0 < z0))
 ) else (
 J0 false
 )
 ) else (
 J0 false
 )
 )

theorem r_s_l2Infix (f : Nat) (p_0 : STerm) (r : Bool) (hM : M_s_l2Infix f p_0 = some r) (σ_0 : St) : AC Tryz.prog 179 [(.agg (cTerm p_0))] σ_0 (fun v s => v = (.bool r) ∧ s = σ_0) := by
 have F_0 := Fr.refl σ_0 []
 unfold M_s_l2Infix at hM
 refine AC.of_body Tryz.func179 rfl rfl (by rfl) (by simp [Tryz.f179]) <| SW.seqR fun K0 hK0 => R.op rfl (a_box (v := (.agg (cTerm p_0))) rfl rfl fun a0 σ0 n0 s0 hF0 => ?_)
 have lo0 := F_0.lo1 n0
 have F0 := F_0.andThen hF0 Lo.nil
 refine sn rfl <| R.done (hK0 _ _ (SW.seqK fun K1 hK1 => ?_))
 obtain ⟨J0, eJ0, hM⟩ := jn_elim hM
 have hJ0 : ∀ (v0 : Bool) (env0 : Env) (σ1 : St), Fr σ_0 σ1 [] → env0.get 2 = some (.bool v0) → σ1 a0 = some (.cells (cTerm p_0)) → J0 v0 = some r → K1 env0 σ1 := by
  intro v0 env0 σ1 F1 h0 s1 hM
  subst eJ0
  refine hK1 _ _ <| SW.ret ?_
  obtain rfl := si hM
  exact ret_of (rc h0 rn) (.bool v0) σ_0 (Le.refl _) F1.back ⟨rfl, rfl⟩
 clear eJ0
 refine SW.region <| fp ti25 rfl rfl rfl (by decide) <| ld ti3 rfl s0 rfl <| it rfl rfl rfl <| mv rfl ?_
 rcases bcase (p_0.kind == 3) with hb0 | hb0
 · have hM := cT hb0 hM
   refine R.go (p_0.kind == 3) rfl hb0 (a_fieldPtr ti25 rfl rfl rfl (by decide) (R.go (p_0.kind == 3) rfl hb0 (a_loadPtr ti23 rfl s0 rfl (R.go (p_0.kind == 3) rfl hb0 (a_lenImm ti23 rfl rfl (n := (p_0.kids.length : Int)) (by simp) (R.go (p_0.kind == 3) rfl hb0 (a_int rfl rfl rfl (R.op rfl (a_pickT rfl hb0 rfl (mv rfl ?_))))))))))
   rcases bcase ((p_0.kids.length : Int) == 2) with hb1 | hb1
   · have hM := cT hb1 hM
     refine R.go ((p_0.kids.length : Int) == 2) rfl hb1 (a_fieldPtr ti25 rfl rfl rfl (by decide) (R.go ((p_0.kids.length : Int) == 2) rfl hb1 (a_loadPtr ti9 rfl s0 rfl ?_)))
     obtain ⟨z0, hr0, hM⟩ := bd hM
     refine R.go ((p_0.kids.length : Int) == 2) rfl hb1 (a_call (g := 116) rfl (oc rfl on) (AC.goP (r_s_l2Level f p_0.name z0 hr0 _) (LeL.refl _) (R.go ((p_0.kids.length : Int) == 2) rfl hb1 (a_int rfl rfl rfl (R.op rfl (a_pickT rfl hb1 rfl (sn rfl (R.done ?_))))))))
     exact hJ0 (decide (0 < z0)) _ _ F0 rfl s0 hM
   · have hM := cF hb1 hM
     refine R.not ((p_0.kids.length : Int) == 2) rfl hb1 <| R.not ((p_0.kids.length : Int) == 2) rfl hb1 <| R.not ((p_0.kids.length : Int) == 2) rfl hb1 <| R.not ((p_0.kids.length : Int) == 2) rfl hb1 <| R.op rfl (a_pickF rfl hb1 rfl (sn rfl (R.done ?_)))
     exact hJ0 false _ _ F0 rfl s0 hM
 · have hM := cF hb0 hM
   refine R.not (p_0.kind == 3) rfl hb0 <| R.not (p_0.kind == 3) rfl hb0 <| R.not (p_0.kind == 3) rfl hb0 <| R.not (p_0.kind == 3) rfl hb0 <| R.op rfl (a_pickF rfl hb0 rfl (mv rfl (R.not false rfl rfl (R.not false rfl rfl (R.not false rfl rfl (R.not false rfl rfl (R.op rfl (a_pickF rfl rfl rfl (sn rfl (R.done ?_))))))))))
   exact hJ0 false _ _ F0 rfl s0 hM

def M_s_l2Sole (f : Nat) (p_0 : STerm) : Option Bool :=
 jn (fun (v0 : Bool) => (
 some (v0)
 )) fun J0 => (
 bif (p_0.kind == 3) then (
 bif ((p_0.kids.length : Int) == 0) then (
 Option.bind (M_s_l2Level f p_0.name) fun z0 =>
 J0 (decide (0 < z0))
 ) else (
 J0 false
 )
 ) else (
 J0 false
 )
 )

theorem r_s_l2Sole (f : Nat) (p_0 : STerm) (r : Bool) (hM : M_s_l2Sole f p_0 = some r) (σ_0 : St) : AC Tryz.prog 186 [(.agg (cTerm p_0))] σ_0 (fun v s => v = (.bool r) ∧ s = σ_0) := by
 have F_0 := Fr.refl σ_0 []
 unfold M_s_l2Sole at hM
 refine AC.of_body Tryz.func186 rfl rfl (by rfl) (by simp [Tryz.f186]) <| SW.seqR fun K0 hK0 => R.op rfl (a_box (v := (.agg (cTerm p_0))) rfl rfl fun a0 σ0 n0 s0 hF0 => ?_)
 have lo0 := F_0.lo1 n0
 have F0 := F_0.andThen hF0 Lo.nil
 refine sn rfl <| R.done (hK0 _ _ (SW.seqK fun K1 hK1 => ?_))
 obtain ⟨J0, eJ0, hM⟩ := jn_elim hM
 have hJ0 : ∀ (v0 : Bool) (env0 : Env) (σ1 : St), Fr σ_0 σ1 [] → env0.get 2 = some (.bool v0) → σ1 a0 = some (.cells (cTerm p_0)) → J0 v0 = some r → K1 env0 σ1 := by
  intro v0 env0 σ1 F1 h0 s1 hM
  subst eJ0
  refine hK1 _ _ <| SW.ret ?_
  obtain rfl := si hM
  exact ret_of (rc h0 rn) (.bool v0) σ_0 (Le.refl _) F1.back ⟨rfl, rfl⟩
 clear eJ0
 refine SW.region <| fp ti25 rfl rfl rfl (by decide) <| ld ti3 rfl s0 rfl <| it rfl rfl rfl <| mv rfl ?_
 rcases bcase (p_0.kind == 3) with hb0 | hb0
 · have hM := cT hb0 hM
   refine R.go (p_0.kind == 3) rfl hb0 (a_fieldPtr ti25 rfl rfl rfl (by decide) (R.go (p_0.kind == 3) rfl hb0 (a_loadPtr ti23 rfl s0 rfl (R.go (p_0.kind == 3) rfl hb0 (a_lenImm ti23 rfl rfl (n := (p_0.kids.length : Int)) (by simp) (R.go (p_0.kind == 3) rfl hb0 (a_int rfl rfl rfl (R.op rfl (a_pickT rfl hb0 rfl (mv rfl ?_))))))))))
   rcases bcase ((p_0.kids.length : Int) == 0) with hb1 | hb1
   · have hM := cT hb1 hM
     refine R.go ((p_0.kids.length : Int) == 0) rfl hb1 (a_fieldPtr ti25 rfl rfl rfl (by decide) (R.go ((p_0.kids.length : Int) == 0) rfl hb1 (a_loadPtr ti9 rfl s0 rfl ?_)))
     obtain ⟨z0, hr0, hM⟩ := bd hM
     refine R.go ((p_0.kids.length : Int) == 0) rfl hb1 (a_call (g := 116) rfl (oc rfl on) (AC.goP (r_s_l2Level f p_0.name z0 hr0 _) (LeL.refl _) (R.go ((p_0.kids.length : Int) == 0) rfl hb1 (a_int rfl rfl rfl (R.op rfl (a_pickT rfl hb1 rfl (sn rfl (R.done ?_))))))))
     exact hJ0 (decide (0 < z0)) _ _ F0 rfl s0 hM
   · have hM := cF hb1 hM
     refine R.not ((p_0.kids.length : Int) == 0) rfl hb1 <| R.not ((p_0.kids.length : Int) == 0) rfl hb1 <| R.not ((p_0.kids.length : Int) == 0) rfl hb1 <| R.not ((p_0.kids.length : Int) == 0) rfl hb1 <| R.op rfl (a_pickF rfl hb1 rfl (sn rfl (R.done ?_)))
     exact hJ0 false _ _ F0 rfl s0 hM
 · have hM := cF hb0 hM
   refine R.not (p_0.kind == 3) rfl hb0 <| R.not (p_0.kind == 3) rfl hb0 <| R.not (p_0.kind == 3) rfl hb0 <| R.not (p_0.kind == 3) rfl hb0 <| R.op rfl (a_pickF rfl hb0 rfl (mv rfl (R.not false rfl rfl (R.not false rfl rfl (R.not false rfl rfl (R.not false rfl rfl (R.op rfl (a_pickF rfl rfl rfl (sn rfl (R.done ?_))))))))))
   exact hJ0 false _ _ F0 rfl s0 hM

def M_s_l2Spaced (f : Nat) (p_0 : ByteArray) : Option ByteArray :=
 jn (fun (v0 : Bool) => (
 bif v0 then (
 bif decide ((⟨#[32]⟩ : ByteArray).size + p_0.size ≤ 140737488355328) then
 bif decide (((⟨#[32]⟩ : ByteArray) ++ p_0).size + (⟨#[32]⟩ : ByteArray).size ≤ 140737488355328) then
 some ((((⟨#[32]⟩ : ByteArray) ++ p_0) ++ (⟨#[32]⟩ : ByteArray)))
 else none
 else none
 ) else (
 some (p_0)
 )
 )) fun J0 => (
 bif decide (p_0 = (⟨#[105, 115]⟩ : ByteArray)) then (
 J0 true
 ) else (
 J0 (decide (p_0 = (⟨#[109, 111, 100]⟩ : ByteArray)))
 )
 )

theorem r_s_l2Spaced (f : Nat) (p_0 : ByteArray) (r : ByteArray) (hM : M_s_l2Spaced f p_0 = some r) (σ_0 : St) : AC Tryz.prog 181 [(.str p_0)] σ_0 (fun v s => v = (.str r) ∧ s = σ_0) := by
 have F_0 := Fr.refl σ_0 []
 unfold M_s_l2Spaced at hM
 refine AC.of_body Tryz.func181 rfl rfl (by rfl) (by simp [Tryz.f181]) <| SW.seqR fun K0 hK0 => sn rfl <| R.done (hK0 _ _ (SW.seq (SW.seqK fun K1 hK1 => ?_)))
 obtain ⟨J0, eJ0, hM⟩ := jn_elim hM
 have hJ0 : ∀ (v0 : Bool) (env0 : Env) (σ0 : St), Fr σ_0 σ0 [] → env0.get 0 = some (.str p_0) → env0.get 8 = some (.bool v0) → J0 v0 = some r → K1 env0 σ0 := by
  intro v0 env0 σ0 F0 h0 h1 hM
  subst eJ0
  refine hK1 _ _ <| SW.cond h1 (fun hb0 => ?_) (fun hb0 => ?_)
  · have hM := cT hb0 hM
    refine SW.seqR fun K2 hK2 => mv h0 ?_
    obtain ⟨hg0, hM⟩ := gd hM
    refine sr (a := (⟨#[32]⟩ : ByteArray)) (b := p_0) (v := (.str ((⟨#[32]⟩ : ByteArray) ++ p_0))) rfl rfl (if_pos (od hg0)) ?_
    obtain ⟨hg1, hM⟩ := gd hM
    refine sr (a := ((⟨#[32]⟩ : ByteArray) ++ p_0)) (b := (⟨#[32]⟩ : ByteArray)) (v := (.str (((⟨#[32]⟩ : ByteArray) ++ p_0) ++ (⟨#[32]⟩ : ByteArray)))) rfl rfl (if_pos (od hg1)) <| sn rfl <| R.done (hK2 _ _ (SW.ret (Qt ?_)))
    obtain rfl := si hM
    exact ret_of (rc rfl rn) (.str (((⟨#[32]⟩ : ByteArray) ++ p_0) ++ (⟨#[32]⟩ : ByteArray))) σ_0 (Le.refl _) F0.back ⟨rfl, rfl⟩
  · have hM := cF hb0 hM
    refine SW.skip <| SW.seqR fun K3 hK3 => mv h0 <| sn rfl <| R.done (hK3 _ _ (SW.ret ?_))
    obtain rfl := si hM
    exact ret_of (rc rfl rn) (.str p_0) σ_0 (Le.refl _) F0.back ⟨rfl, rfl⟩
 clear eJ0
 refine SW.region <| mv rfl <| sr rfl rfl rfl <| mv rfl ?_
 rcases bcase (decide (p_0 = (⟨#[105, 115]⟩ : ByteArray))) with hb1 | hb1
 · have hM := cT hb1 hM
   refine R.notf (decide (p_0 = (⟨#[105, 115]⟩ : ByteArray))) rfl hb1 <| R.notf (decide (p_0 = (⟨#[105, 115]⟩ : ByteArray))) rfl hb1 <| R.op rfl (a_pickT rfl hb1 rfl (R.done ?_))
   exact hJ0 true _ _ F_0 rfl rfl hM
 · have hM := cF hb1 hM
   refine R.gof (decide (p_0 = (⟨#[105, 115]⟩ : ByteArray))) rfl hb1 (a_move rfl (R.gof (decide (p_0 = (⟨#[105, 115]⟩ : ByteArray))) rfl hb1 (a_str rfl rfl rfl (R.op rfl (a_pickF rfl hb1 rfl (R.done ?_))))))
   exact hJ0 (decide (p_0 = (⟨#[109, 111, 100]⟩ : ByteArray))) _ _ F_0 rfl rfl hM

def M_s_l2Plain (f : Nat) (p_0 : ByteArray) : Option Bool :=
 jn (fun (v0 : Bool) => (
 some (v0)
 )) fun J0 => (
 Option.bind (M_s_l1Small f p_0 0) fun z0 =>
 bif z0 then (
 J0 true
 ) else (
 Option.bind (M_s_l1Digit f p_0 0) fun z1 =>
 bif z1 then (
 J0 true
 ) else (
 Option.bind (p_0.data[(0 : Int).toNat]?) fun x0 =>
 bif decide (65 ≤ (x0.toNat : Int)) then (
 Option.bind (p_0.data[(0 : Int).toNat]?) fun x1 =>
 bif decide ((x1.toNat : Int) ≤ 90) then (
 J0 true
 ) else (
 Option.bind (p_0.data[(0 : Int).toNat]?) fun x2 =>
 bif ((x2.toNat : Int) == 91) then (
 J0 true
 ) else (
 Option.bind (p_0.data[(0 : Int).toNat]?) fun x3 =>
 J0 ((x3.toNat : Int) == 40)
 )
 )
 ) else (
 Option.bind (p_0.data[(0 : Int).toNat]?) fun x4 =>
 bif ((x4.toNat : Int) == 91) then (
 J0 true
 ) else (
 Option.bind (p_0.data[(0 : Int).toNat]?) fun x5 =>
 J0 ((x5.toNat : Int) == 40)
 )
 )
 )
 )
 )

theorem r_s_l2Plain (f : Nat) (p_0 : ByteArray) (r : Bool) (hM : M_s_l2Plain f p_0 = some r) (σ_0 : St) : AC Tryz.prog 188 [(.str p_0)] σ_0 (fun v s => v = (.bool r) ∧ s = σ_0) := by
 have F_0 := Fr.refl σ_0 []
 unfold M_s_l2Plain at hM
 refine AC.of_body Tryz.func188 rfl rfl (by rfl) (by simp [Tryz.f188]) <| SW.seqR fun K0 hK0 => sn rfl <| R.done (hK0 _ _ (SW.seqK fun K1 hK1 => ?_))
 obtain ⟨J0, eJ0, hM⟩ := jn_elim hM
 have hJ0 : ∀ (v0 : Bool) (env0 : Env) (σ0 : St), Fr σ_0 σ0 [] → env0.get 2 = some (.bool v0) → J0 v0 = some r → K1 env0 σ0 := by
  intro v0 env0 σ0 F0 h0 hM
  subst eJ0
  refine hK1 _ _ <| SW.ret ?_
  obtain rfl := si hM
  exact ret_of (rc h0 rn) (.bool v0) σ_0 (Le.refl _) F0.back ⟨rfl, rfl⟩
 clear eJ0
 refine SW.region <| mv rfl ?_
 obtain ⟨z0, hr0, hM⟩ := bd hM
 refine cp (r_s_l1Small f p_0 0 z0 hr0 _) rfl (oc rfl (oc rfl on)) (LeL.refl _) <| mv rfl ?_
 rcases bcase z0 with hb0 | hb0
 · have hM := cT hb0 hM
   refine R.notf z0 rfl hb0 <| R.notf z0 rfl hb0 <| R.op rfl (a_pickT rfl hb0 rfl (mv rfl (R.notf true rfl rfl (R.notf true rfl rfl (R.notf true rfl rfl (R.notf true rfl rfl (R.no rfl (R.no rfl (R.no rfl (R.notf true rfl rfl (R.op rfl (a_pickT rfl rfl rfl (mv rfl (R.notf true rfl rfl (R.notf true rfl rfl (R.notf true rfl rfl ?_))))))))))))))))
   refine R.op rfl (a_pickT rfl rfl rfl (mv rfl (R.notf true rfl rfl (R.notf true rfl rfl (R.notf true rfl rfl (R.op rfl (a_pickT rfl rfl rfl (sn rfl (R.done ?_)))))))))
   exact hJ0 true _ _ F_0 rfl hM
 · have hM := cF hb0 hM
   refine R.gof z0 rfl hb0 (a_move rfl ?_)
   obtain ⟨z1, hr1, hM⟩ := bd hM
   refine R.gof z0 rfl hb0 (a_call (g := 169) rfl (oc rfl (oc rfl on)) (AC.goP (r_s_l1Digit f p_0 0 z1 hr1 _) (LeL.refl _) (R.op rfl (a_pickF rfl hb0 rfl (mv rfl ?_)))))
   rcases bcase z1 with hb1 | hb1
   · have hM := cT hb1 hM
     refine R.notf z1 rfl hb1 <| R.notf z1 rfl hb1 <| R.notf z1 rfl hb1 <| R.notf z1 rfl hb1 <| R.no rfl <| R.no rfl <| R.no rfl <| R.notf z1 rfl hb1 <| R.op rfl (a_pickT rfl hb1 rfl (mv rfl (R.notf true rfl rfl (R.notf true rfl rfl (R.notf true rfl rfl (R.op rfl (a_pickT rfl rfl rfl (mv rfl (R.notf true rfl rfl (R.notf true rfl rfl ?_))))))))))
     refine R.notf true rfl rfl <| R.op rfl (a_pickT rfl rfl rfl (sn rfl (R.done ?_)))
     exact hJ0 true _ _ F_0 rfl hM
   · have hM := cF hb1 hM
     refine R.gof z1 rfl hb1 (a_move rfl ?_)
     obtain ⟨x0, hx0, hM⟩ := bd hM
     refine R.gof z1 rfl hb1 (a_idxStr (n := 0) (b := x0) ti9 rfl rfl rfl (by decide) hx0 (R.gof z1 rfl hb1 (a_int rfl rfl rfl (R.gof z1 rfl hb1 (a_move rfl ?_)))))
     rcases bcase (decide (65 ≤ (x0.toNat : Int))) with hb2 | hb2
     · have hM := cT hb2 hM
       refine R.go (decide (65 ≤ (x0.toNat : Int))) rfl hb2 (a_move rfl ?_)
       obtain ⟨x1, hx1, hM⟩ := bd hM
       refine R.go (decide (65 ≤ (x0.toNat : Int))) rfl hb2 (a_idxStr (n := 0) (b := x1) ti9 rfl rfl rfl (by decide) hx1 (R.go (decide (65 ≤ (x0.toNat : Int))) rfl hb2 (a_int rfl rfl rfl (R.gof z1 rfl hb1 (a_pickT rfl hb2 rfl (R.op rfl (a_pickF rfl hb1 rfl (mv rfl ?_))))))))
       rcases bcase (decide ((x1.toNat : Int) ≤ 90)) with hb3 | hb3
       · have hM := cT hb3 hM
         refine R.notf (decide ((x1.toNat : Int) ≤ 90)) rfl hb3 <| R.notf (decide ((x1.toNat : Int) ≤ 90)) rfl hb3 <| R.notf (decide ((x1.toNat : Int) ≤ 90)) rfl hb3 <| R.op rfl (a_pickT rfl hb3 rfl (mv rfl (R.notf true rfl rfl (R.notf true rfl rfl (R.notf true rfl rfl (R.op rfl (a_pickT rfl rfl rfl (sn rfl (R.done ?_)))))))))
         exact hJ0 true _ _ F_0 rfl hM
       · have hM := cF hb3 hM
         refine R.gof (decide ((x1.toNat : Int) ≤ 90)) rfl hb3 (a_move rfl ?_)
         obtain ⟨x2, hx2, hM⟩ := bd hM
         refine R.gof (decide ((x1.toNat : Int) ≤ 90)) rfl hb3 (a_idxStr (n := 0) (b := x2) ti9 rfl rfl rfl (by decide) hx2 (R.gof (decide ((x1.toNat : Int) ≤ 90)) rfl hb3 (a_int rfl rfl rfl (R.op rfl (a_pickF rfl hb3 rfl (mv rfl ?_))))))
         rcases bcase ((x2.toNat : Int) == 91) with hb4 | hb4
         · have hM := cT hb4 hM
           refine R.notf ((x2.toNat : Int) == 91) rfl hb4 <| R.notf ((x2.toNat : Int) == 91) rfl hb4 <| R.notf ((x2.toNat : Int) == 91) rfl hb4 <| R.op rfl (a_pickT rfl hb4 rfl (sn rfl (R.done ?_)))
           exact hJ0 true _ _ F_0 rfl hM
         · have hM := cF hb4 hM
           refine R.gof ((x2.toNat : Int) == 91) rfl hb4 (a_move rfl ?_)
           obtain ⟨x3, hx3, hM⟩ := bd hM
           refine R.gof ((x2.toNat : Int) == 91) rfl hb4 (a_idxStr (n := 0) (b := x3) ti9 rfl rfl rfl (by decide) hx3 (R.gof ((x2.toNat : Int) == 91) rfl hb4 (a_int rfl rfl rfl (R.op rfl (a_pickF rfl hb4 rfl (sn rfl (R.done ?_)))))))
           exact hJ0 ((x3.toNat : Int) == 40) _ _ F_0 rfl hM
     · have hM := cF hb2 hM
       refine R.not (decide (65 ≤ (x0.toNat : Int))) rfl hb2 <| R.not (decide (65 ≤ (x0.toNat : Int))) rfl hb2 <| R.not (decide (65 ≤ (x0.toNat : Int))) rfl hb2 <| R.gof z1 rfl hb1 (a_pickF rfl hb2 rfl (R.op rfl (a_pickF rfl hb1 rfl (mv rfl (R.gof false rfl rfl (a_move rfl ?_))))))
       obtain ⟨x4, hx4, hM⟩ := bd hM
       refine R.gof false rfl rfl (a_idxStr (n := 0) (b := x4) ti9 rfl rfl rfl (by decide) hx4 (R.gof false rfl rfl (a_int rfl rfl rfl (R.op rfl (a_pickF rfl rfl rfl (mv rfl ?_))))))
       rcases bcase ((x4.toNat : Int) == 91) with hb5 | hb5
       · have hM := cT hb5 hM
         refine R.notf ((x4.toNat : Int) == 91) rfl hb5 <| R.notf ((x4.toNat : Int) == 91) rfl hb5 <| R.notf ((x4.toNat : Int) == 91) rfl hb5 <| R.op rfl (a_pickT rfl hb5 rfl (sn rfl (R.done ?_)))
         exact hJ0 true _ _ F_0 rfl hM
       · have hM := cF hb5 hM
         refine R.gof ((x4.toNat : Int) == 91) rfl hb5 (a_move rfl ?_)
         obtain ⟨x5, hx5, hM⟩ := bd hM
         refine R.gof ((x4.toNat : Int) == 91) rfl hb5 (a_idxStr (n := 0) (b := x5) ti9 rfl rfl rfl (by decide) hx5 (R.gof ((x4.toNat : Int) == 91) rfl hb5 (a_int rfl rfl rfl (R.op rfl (a_pickF rfl hb5 rfl (sn rfl (R.done ?_)))))))
         exact hJ0 ((x5.toNat : Int) == 40) _ _ F_0 rfl hM

def M_s_l1Letter (f : Nat) (p_0 : Int) : Option ByteArray :=
 some ((bytesStr ([(IntKind.wrap .u8 (65 + (IntKind.wrap .u8 p_0)))])))

theorem r_s_l1Letter (f : Nat) (p_0 : Int) (r : ByteArray) (hM : M_s_l1Letter f p_0 = some r) (σ_0 : St) : AC Tryz.prog 189 [(I p_0)] σ_0 (fun v s => v = (.str r) ∧ s = σ_0) := by
 have F_0 := Fr.refl σ_0 []
 unfold M_s_l1Letter at hM
 refine AC.of_body Tryz.func189 rfl rfl (by rfl) (by simp [Tryz.f189]) <| SW.seqR fun K0 hK0 => sn rfl <| R.done (hK0 _ _ (SW.seqR fun K1 hK1 => mv rfl (R.op rfl (a_convInt (n := p_0) ti3 ti5 rfl rfl rfl (it rfl rfl rfl (R.op rfl (a_buildSlice (v := (LU ([(IntKind.wrap .u8 (65 + (IntKind.wrap .u8 p_0)))]) .full)) (bsv_of ti22 rfl ti5 (pc rfl pn) rfl ⟨rfl, by decide, by decide, rfl⟩) (R.op rfl (a_convBytes (ns := [(IntKind.wrap .u8 (65 + (IntKind.wrap .u8 p_0)))]) ti22 ti9 rfl rfl ti5 rfl rfl (sn rfl (R.done (hK1 _ _ (SW.ret ?_)))))))))))))
 obtain rfl := si hM
 exact ret_of (rc rfl rn) (.str (bytesStr ([(IntKind.wrap .u8 (65 + (IntKind.wrap .u8 p_0)))]))) σ_0 (Le.refl _) F_0.back ⟨rfl, rfl⟩

def L_s_l18Dec_1 (J0 : Int → ByteArray → Option ByteArray) : Nat → Int → ByteArray → Option ByteArray
 | 0, _, _ => none
 | n + 1, v0, v1 =>
 bif decide (9 < v0) then (
 bif decide ((bytesStr ([(IntKind.wrap .u8 (IntKind.wrap .i64 (48 + (v0.tmod 10))))])).size + v1.size ≤ 140737488355328) then
 L_s_l18Dec_1 J0 n (IntKind.wrap .i64 (v0.tdiv 10)) ((bytesStr ([(IntKind.wrap .u8 (IntKind.wrap .i64 (48 + (v0.tmod 10))))])) ++ v1)
 else none
 ) else (
 J0 v0 v1
 )

def B_s_l18Dec (f : Nat) (c_s_l18Dec : Int → Option ByteArray) (p_0 : Int) : Option ByteArray :=
 bif decide (p_0 < (-9223372036854775807)) then (
 some ((⟨#[45, 57, 50, 50, 51, 51, 55, 50, 48, 51, 54, 56, 53, 52, 55, 55, 53, 56, 48, 56]⟩ : ByteArray))
 ) else (
 bif decide (p_0 < 0) then (
 Option.bind (c_s_l18Dec (IntKind.wrap .i64 (0 - p_0))) fun z0 =>
 bif decide ((⟨#[45]⟩ : ByteArray).size + z0.size ≤ 140737488355328) then
 some (((⟨#[45]⟩ : ByteArray) ++ z0))
 else none
 ) else (
 jn (fun (v2 : Int) (v3 : ByteArray) => (
 bif decide ((bytesStr ([(IntKind.wrap .u8 (IntKind.wrap .i64 (48 + v2)))])).size + v3.size ≤ 140737488355328) then
 some (((bytesStr ([(IntKind.wrap .u8 (IntKind.wrap .i64 (48 + v2)))])) ++ v3))
 else none
 )) fun J0 => (
 L_s_l18Dec_1 J0 f p_0 (⟨#[]⟩ : ByteArray)
 )
 )
 )

def M_s_l18Dec : Nat → Int → Option ByteArray
 | 0, _ => none
 | f + 1, p_0 => B_s_l18Dec f (M_s_l18Dec f) p_0

def Q_s_l18Dec (c : Int → Option ByteArray) : Prop := ∀ (p_0 : Int) (r : ByteArray), c p_0 = some r → ∀ (σ_0 : St), AC Tryz.prog 151 [(I p_0)] σ_0 (fun v s => v = (.str r) ∧ s = σ_0)

theorem b_s_l18Dec (f : Nat) {c_s_l18Dec : Int → Option ByteArray} (ih_s_l18Dec : Q_s_l18Dec c_s_l18Dec) : Q_s_l18Dec (B_s_l18Dec f c_s_l18Dec) := by
 intro p_0 r hM σ_0
 have F_0 := Fr.refl σ_0 []
 unfold B_s_l18Dec at hM
 refine AC.of_body Tryz.func151 rfl rfl (by rfl) (by simp [Tryz.f151]) <| SW.seqR fun K0 hK0 => sn rfl <| R.done (hK0 _ _ (SW.seq (SW.seqR fun K1 hK1 => mv rfl (it rfl rfl rfl (R.done (hK1 _ _ (SW.cond rfl (fun hb0 => ?_) (fun hb0 => ?_))))))))
 · have hM := cT hb0 hM
   refine SW.seqR fun K2 hK2 => sn rfl <| R.done (hK2 _ _ (SW.ret (Qt ?_)))
   obtain rfl := si hM
   exact ret_of (rc rfl rn) (.str (⟨#[45, 57, 50, 50, 51, 51, 55, 50, 48, 51, 54, 56, 53, 52, 55, 55, 53, 56, 48, 56]⟩ : ByteArray)) σ_0 (Le.refl _) F_0.back ⟨rfl, rfl⟩
 · have hM := cF hb0 hM
   refine SW.skip <| SW.seq <| SW.seqR fun K3 hK3 => mv rfl <| it rfl rfl rfl <| R.done (hK3 _ _ (SW.cond rfl (fun hb1 => ?_) (fun hb1 => ?_)))
   · have hM := cT hb1 hM
     refine SW.seqR fun K4 hK4 => mv rfl <| R.op rfl (a_neg (n := p_0) rfl ?_)
     obtain ⟨z0, hr0, hM⟩ := bd hM
     refine cp (ih_s_l18Dec (IntKind.wrap .i64 (0 - p_0)) z0 hr0 _) rfl (oc rfl on) (LeL.refl _) ?_
     obtain ⟨hg0, hM⟩ := gd hM
     refine sr (a := (⟨#[45]⟩ : ByteArray)) (b := z0) (v := (.str ((⟨#[45]⟩ : ByteArray) ++ z0))) rfl rfl (if_pos (od hg0)) <| sn rfl <| R.done (hK4 _ _ (SW.ret (Qt ?_)))
     obtain rfl := si hM
     exact ret_of (rc rfl rn) (.str ((⟨#[45]⟩ : ByteArray) ++ z0)) σ_0 (Le.refl _) F_0.back ⟨rfl, rfl⟩
   · have hM := cF hb1 hM
     refine SW.skip <| SW.seqR fun K5 hK5 => sn rfl <| R.done (hK5 _ _ (SW.seqK fun K6 hK6 => ?_))
     obtain ⟨J0, eJ0, hM⟩ := jn_elim hM
     have hJ0 : ∀ (v2 : Int) (v3 : ByteArray) (env0 : Env) (σ0 : St), Fr σ_0 σ0 [] → env0.get 0 = some (I v2) → env0.get 3 = some (.str v3) → J0 v2 v3 = some r → K6 env0 σ0 := by
      intro v2 v3 env0 σ0 F0 h0 h1 hM
      subst eJ0
      refine hK6 _ _ <| SW.seqR fun K7 hK7 => mv h0 <| it rfl rfl rfl <| R.op rfl (a_convInt (n := (IntKind.wrap .i64 (48 + v2))) ti3 ti5 rfl rfl rfl (R.op rfl (a_buildSlice (v := (LU ([(IntKind.wrap .u8 (IntKind.wrap .i64 (48 + v2)))]) .full)) (bsv_of ti22 rfl ti5 (pc rfl pn) rfl ⟨rfl, by decide, by decide, rfl⟩) (R.op rfl (a_convBytes (ns := [(IntKind.wrap .u8 (IntKind.wrap .i64 (48 + v2)))]) ti22 ti9 rfl rfl ti5 rfl rfl (mv h1 ?_))))))
      obtain ⟨hg1, hM⟩ := gd hM
      refine sr (a := (bytesStr ([(IntKind.wrap .u8 (IntKind.wrap .i64 (48 + v2)))]))) (b := v3) (v := (.str ((bytesStr ([(IntKind.wrap .u8 (IntKind.wrap .i64 (48 + v2)))])) ++ v3))) rfl rfl (if_pos (od hg1)) <| sn rfl <| R.done (hK7 _ _ (SW.ret ?_))
      obtain rfl := si hM
      exact ret_of (rc rfl rn) (.str ((bytesStr ([(IntKind.wrap .u8 (IntKind.wrap .i64 (48 + v2)))])) ++ v3)) σ_0 (Le.refl _) F0.back ⟨rfl, rfl⟩
     clear eJ0
     refine SW.block <| SW.loop <| LW.ind (I := fun n0 env1 σ1 => ∃ (v0 : Int) (v1 : ByteArray), Fr σ_0 σ1 [] ∧ env1.get 0 = some (I v0) ∧ env1.get 3 = some (.str v1) ∧ L_s_l18Dec_1 J0 n0 v0 v1 = some r) ?_ f _ _ ⟨p_0, (⟨#[]⟩ : ByteArray), F_0, rfl, rfl, hM⟩
     rintro n0 env1 σ1 ⟨v0, v1, F1, h2, h3, hM⟩
     cases n0 with
     | zero => (rw [L_s_l18Dec_1] at hM; cases hM)
     | succ n0 =>
      rw [L_s_l18Dec_1] at hM
      refine SW.seq <| SW.seqR fun K8 hK8 => mv h2 <| it rfl rfl rfl <| R.done (hK8 _ _ (SW.cond rfl (fun hb2 => ?_) (fun hb2 => ?_)))
      · have hM := cT hb2 hM
        refine SW.skip <| SW.block <| SW.seqR fun K9 hK9 => mv h2 <| it (a := v0) (b := 10) rfl rfl rfl <| it rfl rfl rfl <| R.op rfl (a_convInt (n := (IntKind.wrap .i64 (48 + (v0.tmod 10)))) ti3 ti5 rfl rfl rfl (R.op rfl (a_buildSlice (v := (LU ([(IntKind.wrap .u8 (IntKind.wrap .i64 (48 + (v0.tmod 10))))]) .full)) (bsv_of ti22 rfl ti5 (pc rfl pn) rfl ⟨rfl, by decide, by decide, rfl⟩) (R.op rfl (a_convBytes (ns := [(IntKind.wrap .u8 (IntKind.wrap .i64 (48 + (v0.tmod 10))))]) ti22 ti9 rfl rfl ti5 rfl rfl (mv h3 ?_))))))
        obtain ⟨hg2, hM⟩ := gd hM
        refine sr (a := (bytesStr ([(IntKind.wrap .u8 (IntKind.wrap .i64 (48 + (v0.tmod 10))))]))) (b := v1) (v := (.str ((bytesStr ([(IntKind.wrap .u8 (IntKind.wrap .i64 (48 + (v0.tmod 10))))])) ++ v1))) rfl rfl (if_pos (od hg2)) <| sn rfl <| R.done (hK9 _ _ (SW.region (mv h2 (it (a := v0) (b := 10) rfl rfl rfl (sn rfl (R.done ?_))))))
        exact ⟨n0, Nat.lt_succ_self _, (IntKind.wrap .i64 (v0.tdiv 10)), ((bytesStr ([(IntKind.wrap .u8 (IntKind.wrap .i64 (48 + (v0.tmod 10))))])) ++ v1), F1, rfl, rfl, hM⟩
      · have hM := cF hb2 hM
        refine SW.exit <| Qte <| Qte <| Qbx ?_
        exact hJ0 v0 v1 _ _ F1 h2 h3 hM

theorem rr_s_l18Dec (f : Nat) : Q_s_l18Dec (M_s_l18Dec f) := by
 induction f with
 | zero => exact by intro p_0 r hM; rw [M_s_l18Dec] at hM; cases hM
 | succ f ih => exact by intro p_0 r hM; rw [M_s_l18Dec] at hM; exact b_s_l18Dec f ih p_0 r hM

theorem r_s_l18Dec (f : Nat) : Q_s_l18Dec (M_s_l18Dec f) := (rr_s_l18Dec f)

def M_s_l1Dec (f : Nat) (p_0 : Int) : Option ByteArray :=
 bif decide (p_0 < 0) then (
 Option.bind (M_s_l18Dec f (IntKind.wrap .i64 (0 - p_0))) fun z0 =>
 bif decide ((⟨#[45]⟩ : ByteArray).size + z0.size ≤ 140737488355328) then
 some (((⟨#[45]⟩ : ByteArray) ++ z0))
 else none
 ) else (
 Option.bind (M_s_l18Dec f p_0) fun z1 =>
 some (z1)
 )

theorem r_s_l1Dec (f : Nat) (p_0 : Int) (r : ByteArray) (hM : M_s_l1Dec f p_0 = some r) (σ_0 : St) : AC Tryz.prog 130 [(I p_0)] σ_0 (fun v s => v = (.str r) ∧ s = σ_0) := by
 have F_0 := Fr.refl σ_0 []
 unfold M_s_l1Dec at hM
 refine AC.of_body Tryz.func130 rfl rfl (by rfl) (by simp [Tryz.f130]) <| SW.seqR fun K0 hK0 => sn rfl <| R.done (hK0 _ _ (SW.seq (SW.seqR fun K1 hK1 => mv rfl (it rfl rfl rfl (R.done (hK1 _ _ (SW.cond rfl (fun hb0 => ?_) (fun hb0 => ?_))))))))
 · have hM := cT hb0 hM
   refine SW.seqR fun K2 hK2 => mv rfl <| R.op rfl (a_neg (n := p_0) rfl ?_)
   obtain ⟨z0, hr0, hM⟩ := bd hM
   refine cp (r_s_l18Dec f (IntKind.wrap .i64 (0 - p_0)) z0 hr0 _) rfl (oc rfl on) (LeL.refl _) ?_
   obtain ⟨hg0, hM⟩ := gd hM
   refine sr (a := (⟨#[45]⟩ : ByteArray)) (b := z0) (v := (.str ((⟨#[45]⟩ : ByteArray) ++ z0))) rfl rfl (if_pos (od hg0)) <| sn rfl <| R.done (hK2 _ _ (SW.ret (Qt ?_)))
   obtain rfl := si hM
   exact ret_of (rc rfl rn) (.str ((⟨#[45]⟩ : ByteArray) ++ z0)) σ_0 (Le.refl _) F_0.back ⟨rfl, rfl⟩
 · have hM := cF hb0 hM
   refine SW.skip <| SW.seqR fun K3 hK3 => mv rfl ?_
   obtain ⟨z1, hr1, hM⟩ := bd hM
   refine cp (r_s_l18Dec f p_0 z1 hr1 _) rfl (oc rfl on) (LeL.refl _) <| sn rfl <| R.done (hK3 _ _ (SW.ret ?_))
   obtain rfl := si hM
   exact ret_of (rc rfl rn) (.str z1) σ_0 (Le.refl _) F_0.back ⟨rfl, rfl⟩

def L_s_l1Text_1 (c_s_l1Text : STerm → Option ByteArray) (p_0 : STerm) (J0 : ByteArray → Option ByteArray) : Nat → ByteArray → Int → Option ByteArray
 | 0, _, _ => none
 | n + 1, v0, v1 =>
 bif decide (v1 < (p_0.kids.length : Int)) then (
 jn (fun (v2 : ByteArray) => (
 bif decide (0 ≤ v1) then
 Option.bind (p_0.kids[(v1 : Int).toNat]?) fun x0 =>
 Option.bind (c_s_l1Text x0) fun z0 =>
 bif decide (v2.size + z0.size ≤ 140737488355328) then
 L_s_l1Text_1 c_s_l1Text p_0 J0 n (v2 ++ z0) (IntKind.wrap .i64 (v1 + 1))
 else none
 else none
 )) fun J1 => (
 bif (v1 == 0) then (
 bif decide (v0.size + (⟨#[40]⟩ : ByteArray).size ≤ 140737488355328) then
 J1 (v0 ++ (⟨#[40]⟩ : ByteArray))
 else none
 ) else (
 bif decide (v0.size + (⟨#[44]⟩ : ByteArray).size ≤ 140737488355328) then
 J1 (v0 ++ (⟨#[44]⟩ : ByteArray))
 else none
 )
 )
 ) else (
 J0 v0
 )

def B_s_l1Text (f : Nat) (c_s_l1Text : STerm → Option ByteArray) (c_s_l1List : STerm → Option ByteArray) (p_0 : STerm) : Option ByteArray :=
 bif (p_0.kind == 1) then (
 Option.bind (M_s_l1Letter f p_0.n) fun z1 =>
 some (z1)
 ) else (
 bif (p_0.kind == 2) then (
 Option.bind (M_s_l1Dec f p_0.n) fun z2 =>
 some (z2)
 ) else (
 Option.bind (M_s_l1Pair f p_0) fun z3 =>
 bif z3 then (
 Option.bind (c_s_l1List p_0) fun z4 =>
 some (z4)
 ) else (
 jn (fun (v3 : ByteArray) => (
 jn (fun (v4 : ByteArray) => (
 some (v4)
 )) fun J2 => (
 bif decide (0 < (p_0.kids.length : Int)) then (
 bif decide (v3.size + (⟨#[41]⟩ : ByteArray).size ≤ 140737488355328) then
 J2 (v3 ++ (⟨#[41]⟩ : ByteArray))
 else none
 ) else (
 J2 v3
 )
 )
 )) fun J0 => (
 L_s_l1Text_1 c_s_l1Text p_0 J0 f p_0.name 0
 )
 )
 )
 )

def L_s_l1List_1 (f : Nat) (c_s_l1Text : STerm → Option ByteArray) (J3 : ByteArray → Int → Int → ByteArray → List STerm → Option ByteArray) : Nat → ByteArray → Int → Int → ByteArray → List STerm → Option ByteArray
 | 0, _, _, _, _, _ => none
 | n + 1, v5, v6, v7, v8, v9 =>
 Option.bind (v9[(1 : Int).toNat]?) fun x1 =>
 Option.bind (M_s_l1Pair f x1) fun z5 =>
 bif z5 then (
 bif decide (v5.size + (⟨#[44]⟩ : ByteArray).size ≤ 140737488355328) then
 Option.bind (x1.kids[(0 : Int).toNat]?) fun x2 =>
 Option.bind (c_s_l1Text x2) fun z6 =>
 bif decide ((v5 ++ (⟨#[44]⟩ : ByteArray)).size + z6.size ≤ 140737488355328) then
 L_s_l1List_1 f c_s_l1Text J3 n ((v5 ++ (⟨#[44]⟩ : ByteArray)) ++ z6) x1.kind x1.n x1.name x1.kids
 else none
 else none
 ) else (
 J3 v5 v6 v7 v8 v9
 )

def B_s_l1List (f : Nat) (c_s_l1Text : STerm → Option ByteArray) (c_s_l1List : STerm → Option ByteArray) (p_0 : STerm) : Option ByteArray :=
 Option.bind (p_0.kids[(0 : Int).toNat]?) fun x3 =>
 Option.bind (c_s_l1Text x3) fun z7 =>
 bif decide ((⟨#[91]⟩ : ByteArray).size + z7.size ≤ 140737488355328) then
 jn (fun (va : ByteArray) (vb : Int) (vc : Int) (vd : ByteArray) (ve : List STerm) => (
 jn (fun (vf : ByteArray) => (
 bif decide (vf.size + (⟨#[93]⟩ : ByteArray).size ≤ 140737488355328) then
 some ((vf ++ (⟨#[93]⟩ : ByteArray)))
 else none
 )) fun J4 => (
 Option.bind (ve[(1 : Int).toNat]?) fun x4 =>
 Option.bind (M_s_l1Nil f x4) fun z8 =>
 bif (!z8) then (
 bif decide (va.size + (⟨#[124]⟩ : ByteArray).size ≤ 140737488355328) then
 Option.bind (c_s_l1Text x4) fun z9 =>
 bif decide ((va ++ (⟨#[124]⟩ : ByteArray)).size + z9.size ≤ 140737488355328) then
 J4 ((va ++ (⟨#[124]⟩ : ByteArray)) ++ z9)
 else none
 else none
 ) else (
 J4 va
 )
 )
 )) fun J3 => (
 L_s_l1List_1 f c_s_l1Text J3 f ((⟨#[91]⟩ : ByteArray) ++ z7) p_0.kind p_0.n p_0.name p_0.kids
 )
 else none

mutual
def M_s_l1Text : Nat → STerm → Option ByteArray
 | 0, _ => none
 | f + 1, p_0 => B_s_l1Text f (M_s_l1Text f) (M_s_l1List f) p_0
def M_s_l1List : Nat → STerm → Option ByteArray
 | 0, _ => none
 | f + 1, p_0 => B_s_l1List f (M_s_l1Text f) (M_s_l1List f) p_0
end

def Q_s_l1Text (c : STerm → Option ByteArray) : Prop := ∀ (p_0 : STerm) (r : ByteArray), c p_0 = some r → ∀ (σ_0 : St), AC Tryz.prog 184 [(.agg (cTerm p_0))] σ_0 (fun v s => v = (.str r) ∧ s = σ_0)

def Q_s_l1List (c : STerm → Option ByteArray) : Prop := ∀ (p_0 : STerm) (r : ByteArray), c p_0 = some r → ∀ (σ_0 : St), AC Tryz.prog 190 [(.agg (cTerm p_0))] σ_0 (fun v s => v = (.str r) ∧ s = σ_0)

theorem b_s_l1Text (f : Nat) {c_s_l1Text : STerm → Option ByteArray} (ih_s_l1Text : Q_s_l1Text c_s_l1Text) {c_s_l1List : STerm → Option ByteArray} (ih_s_l1List : Q_s_l1List c_s_l1List) : Q_s_l1Text (B_s_l1Text f c_s_l1Text c_s_l1List) := by
 intro p_0 r hM σ_0
 have F_0 := Fr.refl σ_0 []
 unfold B_s_l1Text at hM
 refine AC.of_body Tryz.func184 rfl rfl (by rfl) (by simp [Tryz.f184]) <| SW.seqR fun K0 hK0 => R.op rfl (a_box (v := (.agg (cTerm p_0))) rfl rfl fun a0 σ0 n0 s0 hF0 => ?_)
 have lo0 := F_0.lo1 n0
 have F0 := F_0.andThen hF0 Lo.nil
 refine sn rfl <| R.done (hK0 _ _ (SW.seq (SW.seqR fun K1 hK1 => fp ti25 rfl rfl rfl (by decide) (ld ti3 rfl s0 rfl (R.done (hK1 _ _ (SW.block (SW.seqR fun K2 hK2 => it rfl rfl rfl (sn rfl (R.done (hK2 _ _ (SW.cond rfl (fun hb0 => ?_) (fun hb0 => ?_)))))))))))))
 · have hM := cT hb0 hM
   refine SW.seqR fun K3 hK3 => fp ti25 rfl rfl rfl (by decide) <| ld ti3 rfl s0 rfl ?_
   obtain ⟨z1, hr0, hM⟩ := bd hM
   refine cp (r_s_l1Letter f p_0.n z1 hr0 _) rfl (oc rfl on) (LeL.refl _) <| sn rfl <| R.done (hK3 _ _ (SW.ret (Qb (Qt ?_))))
   obtain rfl := si hM
   exact ret_of (rc rfl rn) (.str z1) σ_0 (Le.refl _) F0.back ⟨rfl, rfl⟩
 · have hM := cF hb0 hM
   refine SW.seqR fun K4 hK4 => it rfl rfl rfl <| sn rfl <| R.done (hK4 _ _ (SW.cond rfl (fun hb1 => ?_) (fun hb1 => ?_)))
   · have hM := cT hb1 hM
     refine SW.seqR fun K5 hK5 => fp ti25 rfl rfl rfl (by decide) <| ld ti3 rfl s0 rfl ?_
     obtain ⟨z2, hr1, hM⟩ := bd hM
     refine cp (r_s_l1Dec f p_0.n z2 hr1 _) rfl (oc rfl on) (LeL.refl _) <| sn rfl <| R.done (hK5 _ _ (SW.ret (Qb (Qt ?_))))
     obtain rfl := si hM
     exact ret_of (rc rfl rn) (.str z2) σ_0 (Le.refl _) F0.back ⟨rfl, rfl⟩
   · have hM := cF hb1 hM
     refine SW.skip <| SW.seq <| SW.seqR fun K6 hK6 => ld (v := (.agg (cTerm p_0))) ti25 rfl s0 rfl ?_
     obtain ⟨z3, hr2, hM⟩ := bd hM
     refine cp (r_s_l1Pair f p_0 z3 hr2 _) rfl (oc rfl on) (LeL.refl _) <| R.done (hK6 _ _ (SW.cond rfl (fun hb2 => ?_) (fun hb2 => ?_)))
     · have hM := cT hb2 hM
       refine SW.seqR fun K7 hK7 => ld (v := (.agg (cTerm p_0))) ti25 rfl s0 rfl ?_
       obtain ⟨z4, hr3, hM⟩ := bd hM
       refine cp (ih_s_l1List p_0 z4 hr3 _) rfl (oc rfl on) (LeL.refl _) <| sn rfl <| R.done (hK7 _ _ (SW.ret (Qt ?_)))
       obtain rfl := si hM
       exact ret_of (rc rfl rn) (.str z4) σ_0 (Le.refl _) F0.back ⟨rfl, rfl⟩
     · have hM := cF hb2 hM
       refine SW.skip <| SW.seqR fun K8 hK8 => fp ti25 rfl rfl rfl (by decide) <| ld ti9 rfl s0 rfl <| sn rfl <| R.done (hK8 _ _ (SW.seqK fun K9 hK9 => ?_))
       obtain ⟨J0, eJ0, hM⟩ := jn_elim hM
       have hJ0 : ∀ (v3 : ByteArray) (env0 : Env) (σ1 : St), Fr σ_0 σ1 [] → env0.get 1 = some (.ptr a0 0) → env0.get 3 = some (.str v3) → σ1 a0 = some (.cells (cTerm p_0)) → J0 v3 = some r → K9 env0 σ1 := by
        intro v3 env0 σ1 F1 h0 h1 s1 hM
        subst eJ0
        refine hK9 _ _ <| SW.seqK fun Ka hKa => ?_
        obtain ⟨J2, eJ1, hM⟩ := jn_elim hM
        have hJ1 : ∀ (v4 : ByteArray) (env1 : Env) (σ2 : St), Fr σ_0 σ2 [] → env1.get 3 = some (.str v4) → σ2 a0 = some (.cells (cTerm p_0)) → J2 v4 = some r → Ka env1 σ2 := by
         intro v4 env1 σ2 F2 h2 s2 hM
         subst eJ1
         refine hKa _ _ <| SW.seqR fun Kb hKb => mv h2 <| sn rfl <| R.done (hKb _ _ (SW.ret ?_))
         obtain rfl := si hM
         exact ret_of (rc rfl rn) (.str v4) σ_0 (Le.refl _) F2.back ⟨rfl, rfl⟩
        clear eJ1
        refine SW.seqR fun Kc hKc => fp ti25 rfl h0 rfl (by decide) <| ld ti23 rfl s1 rfl <| R.op rfl (a_lenImm ti23 rfl rfl (n := (p_0.kids.length : Int)) (by simp) (it rfl rfl rfl (R.done (hKc _ _ (SW.cond rfl (fun hb3 => ?_) (fun hb3 => ?_))))))
        · have hM := cT hb3 hM
          refine SW.region <| mv h1 ?_
          obtain ⟨hg0, hM⟩ := gd hM
          refine sr (a := v3) (b := (⟨#[41]⟩ : ByteArray)) (v := (.str (v3 ++ (⟨#[41]⟩ : ByteArray)))) rfl rfl (if_pos (od hg0)) <| sn rfl <| R.done ?_
          exact hJ1 (v3 ++ (⟨#[41]⟩ : ByteArray)) _ _ F1 rfl s1 hM
        · have hM := cF hb3 hM
          refine SW.skip ?_
          exact hJ1 v3 _ _ F1 h1 s1 hM
       clear eJ0
       refine SW.seqR fun Kd hKd => sn rfl <| R.done (hKd _ _ (SW.block (SW.loop (LW.ind (I := fun n1 env2 σ3 => ∃ (v0 : ByteArray) (v1 : Int), Fr σ_0 σ3 [] ∧ env2.get 1 = some (.ptr a0 0) ∧ env2.get 3 = some (.str v0) ∧ env2.get 4 = some (I v1) ∧ σ3 a0 = some (.cells (cTerm p_0)) ∧ L_s_l1Text_1 c_s_l1Text p_0 J0 n1 v0 v1 = some r) ?_ f _ _ ⟨p_0.name, 0, F0, rfl, rfl, rfl, s0, hM⟩))))
       rintro n1 env2 σ3 ⟨v0, v1, F3, h3, h4, h5, s3, hM⟩
       cases n1 with
       | zero => (rw [L_s_l1Text_1] at hM; cases hM)
       | succ n1 =>
        rw [L_s_l1Text_1] at hM
        refine SW.seq <| SW.seqR fun Ke hKe => mv h5 <| fp ti25 rfl h3 rfl (by decide) <| ld ti23 rfl s3 rfl <| R.op rfl (a_lenImm ti23 rfl rfl (n := (p_0.kids.length : Int)) (by simp) (it rfl rfl rfl (R.done (hKe _ _ (SW.cond rfl (fun hb4 => ?_) (fun hb4 => ?_))))))
        · have hM := cT hb4 hM
          refine SW.skip <| SW.seq <| SW.block <| SW.seqK fun Kf hKf => ?_
          obtain ⟨J1, eJ2, hM⟩ := jn_elim hM
          have hJ2 : ∀ (v2 : ByteArray) (env3 : Env) (σ4 : St), Fr σ_0 σ4 [] → env3.get 1 = some (.ptr a0 0) → env3.get 3 = some (.str v2) → env3.get 4 = some (I v1) → σ4 a0 = some (.cells (cTerm p_0)) → J1 v2 = some r → Kf env3 σ4 := by
           intro v2 env3 σ4 F4 h6 h7 h8 s4 hM
           subst eJ2
           refine hKf _ _ <| SW.region <| mv h7 <| fp ti25 rfl h6 rfl (by decide) <| ld ti23 rfl s4 rfl <| mv h8 ?_
           obtain ⟨hg1, hM⟩ := gd hM
           obtain ⟨x0, hx0, hM⟩ := bd hM
           refine R.op rfl (a_idxImm (f := eTerm) (xs := p_0.kids) (n := v1) (e := x0) (v := (.agg (cTerm x0))) ti23 rfl ti25 rfl rfl rfl (od hg1) hx0 (eTerm_eq x0) (li (v := (.agg (cTerm x0))) ti25 rfl rfl ?_))
           obtain ⟨z0, hr4, hM⟩ := bd hM
           refine cp (ih_s_l1Text x0 z0 hr4 _) rfl (oc rfl on) (LeL.refl _) ?_
           obtain ⟨hg2, hM⟩ := gd hM
           refine sr (a := v2) (b := z0) (v := (.str (v2 ++ z0))) rfl rfl (if_pos (od hg2)) <| sn rfl <| R.done <| SW.region <| mv h8 <| it rfl rfl rfl <| sn rfl <| R.done ?_
           exact ⟨n1, Nat.lt_succ_self _, (v2 ++ z0), (IntKind.wrap .i64 (v1 + 1)), F4, h6, rfl, rfl, s4, hM⟩
          clear eJ2
          refine SW.seqR fun Kg hKg => mv h5 <| it rfl rfl rfl <| R.done (hKg _ _ (SW.cond rfl (fun hb5 => ?_) (fun hb5 => ?_)))
          · have hM := cT hb5 hM
            refine SW.region <| mv h4 ?_
            obtain ⟨hg3, hM⟩ := gd hM
            refine sr (a := v0) (b := (⟨#[40]⟩ : ByteArray)) (v := (.str (v0 ++ (⟨#[40]⟩ : ByteArray)))) rfl rfl (if_pos (od hg3)) <| sn rfl <| R.done ?_
            exact hJ2 (v0 ++ (⟨#[40]⟩ : ByteArray)) _ _ F3 h3 rfl h5 s3 hM
          · have hM := cF hb5 hM
            refine SW.region <| mv h4 ?_
            obtain ⟨hg4, hM⟩ := gd hM
            refine sr (a := v0) (b := (⟨#[44]⟩ : ByteArray)) (v := (.str (v0 ++ (⟨#[44]⟩ : ByteArray)))) rfl rfl (if_pos (od hg4)) <| sn rfl <| R.done ?_
            exact hJ2 (v0 ++ (⟨#[44]⟩ : ByteArray)) _ _ F3 h3 rfl h5 s3 hM
        · have hM := cF hb4 hM
          refine SW.exit <| Qte <| Qte <| Qbx ?_
          exact hJ0 v0 _ _ F3 h3 h4 s3 hM

theorem b_s_l1List (f : Nat) {c_s_l1Text : STerm → Option ByteArray} (ih_s_l1Text : Q_s_l1Text c_s_l1Text) {c_s_l1List : STerm → Option ByteArray} (ih_s_l1List : Q_s_l1List c_s_l1List) : Q_s_l1List (B_s_l1List f c_s_l1Text c_s_l1List) := by
 intro p_0 r hM σ_0
 have F_0 := Fr.refl σ_0 []
 unfold B_s_l1List at hM
 refine AC.of_body Tryz.func190 rfl rfl (by rfl) (by simp [Tryz.f190]) <| SW.seqR fun K0 hK0 => R.op rfl (a_box (v := (.agg (cTerm p_0))) rfl rfl fun a0 σ0 n0 s0 hF0 => ?_)
 have lo0 := F_0.lo1 n0
 have F0 := F_0.andThen hF0 Lo.nil
 refine sn rfl <| R.done (hK0 _ _ (SW.seqR fun K1 hK1 => fp ti25 rfl rfl rfl (by decide) (ld ti23 rfl s0 rfl ?_)))
 obtain ⟨x3, hx1, hM⟩ := bd hM
 refine R.op rfl (a_idxImm (f := eTerm) (xs := p_0.kids) (n := 0) (e := x3) (v := (.agg (cTerm x3))) ti23 rfl ti25 rfl rfl rfl (by decide) hx1 (eTerm_eq x3) (li (v := (.agg (cTerm x3))) ti25 rfl rfl ?_))
 obtain ⟨z7, hr5, hM⟩ := bd hM
 refine cp (ih_s_l1Text x3 z7 hr5 _) rfl (oc rfl on) (LeL.refl _) ?_
 obtain ⟨hg5, hM⟩ := gd hM
 refine sr (a := (⟨#[91]⟩ : ByteArray)) (b := z7) (v := (.str ((⟨#[91]⟩ : ByteArray) ++ z7))) rfl rfl (if_pos (od hg5)) <| sn rfl <| R.done (hK1 _ _ (SW.seqK fun Kh hKh => ?_))
 obtain ⟨J3, eJ3, hM⟩ := jn_elim hM
 have hJ3 : ∀ (va : ByteArray) (vb : Int) (vc : Int) (vd : ByteArray) (ve : List STerm) (env4 : Env) (σ5 : St), Fr σ_0 σ5 [] → env4.get 1 = some (.ptr a0 0) → env4.get 3 = some (.str va) → σ5 a0 = some (.cells [(I vb), (I vc), (.str vd), (LTerm ve .no)]) → J3 va vb vc vd ve = some r → Kh env4 σ5 := by
  intro va vb vc vd ve env4 σ5 F5 h9 ha s5 hM
  subst eJ3
  refine hKh _ _ <| SW.seqK fun Ki hKi => ?_
  obtain ⟨J4, eJ4, hM⟩ := jn_elim hM
  have hJ4 : ∀ (vf : ByteArray) (env5 : Env) (σ6 : St), Fr σ_0 σ6 [] → env5.get 3 = some (.str vf) → σ6 a0 = some (.cells [(I vb), (I vc), (.str vd), (LTerm ve .no)]) → J4 vf = some r → Ki env5 σ6 := by
   intro vf env5 σ6 F6 hb s6 hM
   subst eJ4
   refine hKi _ _ <| SW.seqR fun Kj hKj => mv hb ?_
   obtain ⟨hg6, hM⟩ := gd hM
   refine sr (a := vf) (b := (⟨#[93]⟩ : ByteArray)) (v := (.str (vf ++ (⟨#[93]⟩ : ByteArray)))) rfl rfl (if_pos (od hg6)) <| sn rfl <| R.done (hKj _ _ (SW.ret ?_))
   obtain rfl := si hM
   exact ret_of (rc rfl rn) (.str (vf ++ (⟨#[93]⟩ : ByteArray))) σ_0 (Le.refl _) F6.back ⟨rfl, rfl⟩
  clear eJ4
  refine SW.seqR fun Kk hKk => fp ti25 rfl h9 rfl (by decide) <| ld ti23 rfl s5 rfl ?_
  obtain ⟨x4, hx2, hM⟩ := bd hM
  refine R.op rfl (a_idxImm (f := eTerm) (xs := ve) (n := 1) (e := x4) (v := (.agg (cTerm x4))) ti23 rfl ti25 rfl rfl rfl (by decide) hx2 (eTerm_eq x4) (li (v := (.agg (cTerm x4))) ti25 rfl rfl ?_))
  obtain ⟨z8, hr6, hM⟩ := bd hM
  refine cp (r_s_l1Nil f x4 z8 hr6 _) rfl (oc rfl on) (LeL.refl _) <| no rfl <| R.done (hKk _ _ (SW.cond rfl (fun hb6 => ?_) (fun hb6 => ?_)))
  · have hM := cT hb6 hM
    refine SW.region <| mv ha ?_
    obtain ⟨hg7, hM⟩ := gd hM
    refine sr (a := va) (b := (⟨#[124]⟩ : ByteArray)) (v := (.str (va ++ (⟨#[124]⟩ : ByteArray)))) rfl rfl (if_pos (od hg7)) <| fp ti25 rfl h9 rfl (by decide) <| ld ti23 rfl s5 rfl <| R.op rfl (a_idxImm (f := eTerm) (xs := ve) (n := 1) (e := x4) (v := (.agg (cTerm x4))) ti23 rfl ti25 rfl rfl rfl (by decide) hx2 (eTerm_eq x4) (li (v := (.agg (cTerm x4))) ti25 rfl rfl ?_))
    obtain ⟨z9, hr7, hM⟩ := bd hM
    refine cp (ih_s_l1Text x4 z9 hr7 _) rfl (oc rfl on) (LeL.refl _) ?_
    obtain ⟨hg8, hM⟩ := gd hM
    refine sr (a := (va ++ (⟨#[124]⟩ : ByteArray))) (b := z9) (v := (.str ((va ++ (⟨#[124]⟩ : ByteArray)) ++ z9))) rfl rfl (if_pos (od hg8)) <| sn rfl <| R.done ?_
    exact hJ4 ((va ++ (⟨#[124]⟩ : ByteArray)) ++ z9) _ _ F5 rfl s5 hM
  · have hM := cF hb6 hM
    refine SW.skip ?_
    exact hJ4 va _ _ F5 ha s5 hM
 clear eJ3
 refine SW.block <| SW.loop <| LW.ind (I := fun n2 env6 σ7 => ∃ (v5 : ByteArray) (v6 : Int) (v7 : Int) (v8 : ByteArray) (v9 : List STerm), Fr σ_0 σ7 [] ∧ env6.get 1 = some (.ptr a0 0) ∧ env6.get 3 = some (.str v5) ∧ σ7 a0 = some (.cells [(I v6), (I v7), (.str v8), (LTerm v9 .no)]) ∧ L_s_l1List_1 f c_s_l1Text J3 n2 v5 v6 v7 v8 v9 = some r) ?_ f _ _ ⟨((⟨#[91]⟩ : ByteArray) ++ z7), p_0.kind, p_0.n, p_0.name, p_0.kids, F0, rfl, rfl, s0, hM⟩
 rintro n2 env6 σ7 ⟨v5, v6, v7, v8, v9, F7, hc, hd, s7, hM⟩
 cases n2 with
 | zero => (rw [L_s_l1List_1] at hM; cases hM)
 | succ n2 =>
  rw [L_s_l1List_1] at hM
  refine SW.seq <| SW.seqR fun Kl hKl => fp ti25 rfl hc rfl (by decide) <| ld ti23 rfl s7 rfl ?_
  obtain ⟨x1, hx3, hM⟩ := bd hM
  refine R.op rfl (a_idxImm (f := eTerm) (xs := v9) (n := 1) (e := x1) (v := (.agg (cTerm x1))) ti23 rfl ti25 rfl rfl rfl (by decide) hx3 (eTerm_eq x1) (li (v := (.agg (cTerm x1))) ti25 rfl rfl ?_))
  obtain ⟨z5, hr8, hM⟩ := bd hM
  refine cp (r_s_l1Pair f x1 z5 hr8 _) rfl (oc rfl on) (LeL.refl _) <| R.done (hKl _ _ (SW.cond rfl (fun hb7 => ?_) (fun hb7 => ?_)))
  · have hM := cT hb7 hM
    refine SW.skip <| SW.block <| SW.seqR fun Km hKm => fp ti25 rfl hc rfl (by decide) <| ld ti23 rfl s7 rfl <| R.op rfl (a_idxImm (f := eTerm) (xs := v9) (n := 1) (e := x1) (v := (.agg (cTerm x1))) ti23 rfl ti25 rfl rfl rfl (by decide) hx3 (eTerm_eq x1) (li (v := (.agg (cTerm x1))) ti25 rfl rfl (R.op rfl (a_store (cs' := (cTerm x1)) ti25 hc rfl s7 rfl (nb rfl) rfl rfl fun σ8 s8 hF1 => ?_))))
    have F8 := F7.andThen hF1 lo0
    refine R.done (hKm _ _ (SW.region (mv hd ?_)))
    obtain ⟨hg9, hM⟩ := gd hM
    refine sr (a := v5) (b := (⟨#[44]⟩ : ByteArray)) (v := (.str (v5 ++ (⟨#[44]⟩ : ByteArray)))) rfl rfl (if_pos (od hg9)) <| fp ti25 rfl hc rfl (by decide) <| ld ti23 rfl s8 rfl ?_
    obtain ⟨x2, hx4, hM⟩ := bd hM
    refine R.op rfl (a_idxImm (f := eTerm) (xs := x1.kids) (n := 0) (e := x2) (v := (.agg (cTerm x2))) ti23 rfl ti25 rfl rfl rfl (by decide) hx4 (eTerm_eq x2) (li (v := (.agg (cTerm x2))) ti25 rfl rfl ?_))
    obtain ⟨z6, hr9, hM⟩ := bd hM
    refine cp (ih_s_l1Text x2 z6 hr9 _) rfl (oc rfl on) (LeL.refl _) ?_
    obtain ⟨hga, hM⟩ := gd hM
    refine sr (a := (v5 ++ (⟨#[44]⟩ : ByteArray))) (b := z6) (v := (.str ((v5 ++ (⟨#[44]⟩ : ByteArray)) ++ z6))) rfl rfl (if_pos (od hga)) <| sn rfl <| R.done ?_
    exact ⟨n2, Nat.lt_succ_self _, ((v5 ++ (⟨#[44]⟩ : ByteArray)) ++ z6), x1.kind, x1.n, x1.name, x1.kids, F8, hc, rfl, s8, hM⟩
  · have hM := cF hb7 hM
    refine SW.exit <| Qte <| Qte <| Qbx ?_
    exact hJ3 v5 v6 v7 v8 v9 _ _ F7 hc hd s7 hM

theorem rr_s_l1Text (f : Nat) : Q_s_l1Text (M_s_l1Text f) ∧ Q_s_l1List (M_s_l1List f) := by
 induction f with
 | zero => exact ⟨(by intro p_0 r hM; rw [M_s_l1Text] at hM; cases hM), (by intro p_0 r hM; rw [M_s_l1List] at hM; cases hM)⟩
 | succ f ih => exact ⟨(by intro p_0 r hM; rw [M_s_l1Text] at hM; exact b_s_l1Text f ih.1 ih.2 p_0 r hM), (by intro p_0 r hM; rw [M_s_l1List] at hM; exact b_s_l1List f ih.1 ih.2 p_0 r hM)⟩

theorem r_s_l1Text (f : Nat) : Q_s_l1Text (M_s_l1Text f) := (rr_s_l1Text f).1

theorem r_s_l1List (f : Nat) : Q_s_l1List (M_s_l1List f) := (rr_s_l1Text f).2

def L_s_l2Args_1 (c_s_l2Text : STerm → Option ByteArray) (p_0 : (List STerm)) (J0 : ByteArray → Option ByteArray) : Nat → ByteArray → Int → Option ByteArray
 | 0, _, _ => none
 | n + 1, v0, v1 =>
 bif decide (v1 < (p_0.length : Int)) then (
 jn (fun (v2 : ByteArray) => (
 bif decide (0 ≤ v1) then
 Option.bind (p_0[(v1 : Int).toNat]?) fun x0 =>
 Option.bind (c_s_l2Text x0) fun z0 =>
 bif decide (v2.size + z0.size ≤ 140737488355328) then
 L_s_l2Args_1 c_s_l2Text p_0 J0 n (v2 ++ z0) (IntKind.wrap .i64 (v1 + 1))
 else none
 else none
 )) fun J1 => (
 bif decide (0 < v1) then (
 bif decide (v0.size + (⟨#[44]⟩ : ByteArray).size ≤ 140737488355328) then
 J1 (v0 ++ (⟨#[44]⟩ : ByteArray))
 else none
 ) else (
 J1 v0
 )
 )
 ) else (
 J0 v0
 )

def B_s_l2Args (f : Nat) (c_s_l2Text : STerm → Option ByteArray) (c_s_l2List : STerm → Option ByteArray) (c_s_l2Left : STerm → Int → Option ByteArray) (c_s_l2Right : STerm → Int → Option ByteArray) (c_s_l2Args : (List STerm) → Option ByteArray) (c_s_l2Bracket : STerm → Int → Option ByteArray) (p_0 : (List STerm)) : Option ByteArray :=
 jn (fun (v3 : ByteArray) => (
 some (v3)
 )) fun J0 => (
 L_s_l2Args_1 c_s_l2Text p_0 J0 f (⟨#[]⟩ : ByteArray) 0
 )

def B_s_l2Text (f : Nat) (c_s_l2Text : STerm → Option ByteArray) (c_s_l2List : STerm → Option ByteArray) (c_s_l2Left : STerm → Int → Option ByteArray) (c_s_l2Right : STerm → Int → Option ByteArray) (c_s_l2Args : (List STerm) → Option ByteArray) (c_s_l2Bracket : STerm → Int → Option ByteArray) (p_0 : STerm) : Option ByteArray :=
 Option.bind (M_s_l1Pair f p_0) fun z1 =>
 bif z1 then (
 Option.bind (c_s_l2List p_0) fun z2 =>
 some (z2)
 ) else (
 Option.bind (M_s_l2Infix f p_0) fun z3 =>
 bif z3 then (
 Option.bind (M_s_l2Level f p_0.name) fun z4 =>
 jn (fun (v4 : Int) => (
 Option.bind (p_0.kids[(0 : Int).toNat]?) fun x1 =>
 Option.bind (p_0.kids[(1 : Int).toNat]?) fun x2 =>
 Option.bind (c_s_l2Left x1 v4) fun z5 =>
 Option.bind (M_s_l2Spaced f p_0.name) fun z6 =>
 bif decide (z5.size + z6.size ≤ 140737488355328) then
 Option.bind (c_s_l2Right x2 (IntKind.wrap .i64 (z4 - 1))) fun z7 =>
 bif decide ((z5 ++ z6).size + z7.size ≤ 140737488355328) then
 some (((z5 ++ z6) ++ z7))
 else none
 else none
 )) fun J2 => (
 bif (z4 == 3) then (
 J2 2
 ) else (
 J2 z4
 )
 )
 ) else (
 jn (fun (v5 : Bool) => (
 bif v5 then (
 bif decide (p_0.name.size + (⟨#[40]⟩ : ByteArray).size ≤ 140737488355328) then
 Option.bind (c_s_l2Args p_0.kids) fun z8 =>
 bif decide ((p_0.name ++ (⟨#[40]⟩ : ByteArray)).size + z8.size ≤ 140737488355328) then
 bif decide (((p_0.name ++ (⟨#[40]⟩ : ByteArray)) ++ z8).size + (⟨#[41]⟩ : ByteArray).size ≤ 140737488355328) then
 some ((((p_0.name ++ (⟨#[40]⟩ : ByteArray)) ++ z8) ++ (⟨#[41]⟩ : ByteArray)))
 else none
 else none
 else none
 ) else (
 Option.bind (M_s_l1Text f p_0) fun z9 =>
 some (z9)
 )
 )) fun J3 => (
 bif (p_0.kind == 3) then (
 J3 (decide (0 < (p_0.kids.length : Int)))
 ) else (
 J3 false
 )
 )
 )
 )

def L_s_l2List_1 (f : Nat) (J4 : List STerm → Int → Int → ByteArray → List STerm → Option ByteArray) : Nat → List STerm → Int → Int → ByteArray → List STerm → Option ByteArray
 | 0, _, _, _, _, _ => none
 | n + 1, v6, v7, v8, v9, va =>
 Option.bind (M_s_l1Pair f (STerm.mk v7 v8 v9 va)) fun za =>
 bif za then (
 Option.bind (va[(0 : Int).toNat]?) fun x3 =>
 bif decide (v6.length + ([x3]).length ≤ 4294967296) then
 Option.bind (va[(1 : Int).toNat]?) fun x4 =>
 L_s_l2List_1 f J4 n (v6 ++ ([x3])) x4.kind x4.n x4.name x4.kids
 else none
 ) else (
 J4 v6 v7 v8 v9 va
 )

def B_s_l2List (f : Nat) (c_s_l2Text : STerm → Option ByteArray) (c_s_l2List : STerm → Option ByteArray) (c_s_l2Left : STerm → Int → Option ByteArray) (c_s_l2Right : STerm → Int → Option ByteArray) (c_s_l2Args : (List STerm) → Option ByteArray) (c_s_l2Bracket : STerm → Int → Option ByteArray) (p_0 : STerm) : Option ByteArray :=
 jn (fun (vb : List STerm) (vc : Int) (vd : Int) (ve : ByteArray) (vf : List STerm) => (
 Option.bind (M_s_l1Nil f (STerm.mk vc vd ve vf)) fun zb =>
 bif zb then (
 Option.bind (c_s_l2Args vb) fun zc =>
 bif decide ((⟨#[91]⟩ : ByteArray).size + zc.size ≤ 140737488355328) then
 bif decide (((⟨#[91]⟩ : ByteArray) ++ zc).size + (⟨#[93]⟩ : ByteArray).size ≤ 140737488355328) then
 some ((((⟨#[91]⟩ : ByteArray) ++ zc) ++ (⟨#[93]⟩ : ByteArray)))
 else none
 else none
 ) else (
 Option.bind (c_s_l2Args vb) fun zd =>
 bif decide ((⟨#[91]⟩ : ByteArray).size + zd.size ≤ 140737488355328) then
 bif decide (((⟨#[91]⟩ : ByteArray) ++ zd).size + (⟨#[124]⟩ : ByteArray).size ≤ 140737488355328) then
 Option.bind (c_s_l2Text (STerm.mk vc vd ve vf)) fun ze =>
 bif decide ((((⟨#[91]⟩ : ByteArray) ++ zd) ++ (⟨#[124]⟩ : ByteArray)).size + ze.size ≤ 140737488355328) then
 bif decide (((((⟨#[91]⟩ : ByteArray) ++ zd) ++ (⟨#[124]⟩ : ByteArray)) ++ ze).size + (⟨#[93]⟩ : ByteArray).size ≤ 140737488355328) then
 some ((((((⟨#[91]⟩ : ByteArray) ++ zd) ++ (⟨#[124]⟩ : ByteArray)) ++ ze) ++ (⟨#[93]⟩ : ByteArray)))
 else none
 else none
 else none
 else none
 )
 )) fun J4 => (
 L_s_l2List_1 f J4 f ([] : List STerm) p_0.kind p_0.n p_0.name p_0.kids
 )

def B_s_l2Left (f : Nat) (c_s_l2Text : STerm → Option ByteArray) (c_s_l2List : STerm → Option ByteArray) (c_s_l2Left : STerm → Int → Option ByteArray) (c_s_l2Right : STerm → Int → Option ByteArray) (c_s_l2Args : (List STerm) → Option ByteArray) (c_s_l2Bracket : STerm → Int → Option ByteArray) (p_0 : STerm) (p_1 : Int) : Option ByteArray :=
 Option.bind (M_s_l2Sole f p_0) fun z1 =>
 bif z1 then (
 Option.bind (c_s_l2Text p_0) fun z2 =>
 bif decide ((⟨#[40]⟩ : ByteArray).size + z2.size ≤ 140737488355328) then
 bif decide (((⟨#[40]⟩ : ByteArray) ++ z2).size + (⟨#[41]⟩ : ByteArray).size ≤ 140737488355328) then
 some ((((⟨#[40]⟩ : ByteArray) ++ z2) ++ (⟨#[41]⟩ : ByteArray)))
 else none
 else none
 ) else (
 Option.bind (c_s_l2Bracket p_0 p_1) fun zf =>
 some (zf)
 )

def B_s_l2Bracket (f : Nat) (c_s_l2Text : STerm → Option ByteArray) (c_s_l2List : STerm → Option ByteArray) (c_s_l2Left : STerm → Int → Option ByteArray) (c_s_l2Right : STerm → Int → Option ByteArray) (c_s_l2Args : (List STerm) → Option ByteArray) (c_s_l2Bracket : STerm → Int → Option ByteArray) (p_0 : STerm) (p_1 : Int) : Option ByteArray :=
 jn (fun (vg : Bool) => (
 bif vg then (
 Option.bind (c_s_l2Text p_0) fun zg =>
 bif decide ((⟨#[40]⟩ : ByteArray).size + zg.size ≤ 140737488355328) then
 bif decide (((⟨#[40]⟩ : ByteArray) ++ zg).size + (⟨#[41]⟩ : ByteArray).size ≤ 140737488355328) then
 some ((((⟨#[40]⟩ : ByteArray) ++ zg) ++ (⟨#[41]⟩ : ByteArray)))
 else none
 else none
 ) else (
 Option.bind (c_s_l2Text p_0) fun zh =>
 some (zh)
 )
 )) fun J5 => (
 Option.bind (M_s_l2Infix f p_0) fun zi =>
 bif zi then (
 Option.bind (M_s_l2Level f p_0.name) fun zj =>
 J5 (decide (p_1 < zj))
 ) else (
 J5 false
 )
 )

def B_s_l2Right (f : Nat) (c_s_l2Text : STerm → Option ByteArray) (c_s_l2List : STerm → Option ByteArray) (c_s_l2Left : STerm → Int → Option ByteArray) (c_s_l2Right : STerm → Int → Option ByteArray) (c_s_l2Args : (List STerm) → Option ByteArray) (c_s_l2Bracket : STerm → Int → Option ByteArray) (p_0 : STerm) (p_1 : Int) : Option ByteArray :=
 Option.bind (c_s_l2Bracket p_0 p_1) fun z1 =>
 jn (fun (vh : Bool) => (
 bif vh then (
 bif decide ((⟨#[40]⟩ : ByteArray).size + z1.size ≤ 140737488355328) then
 bif decide (((⟨#[40]⟩ : ByteArray) ++ z1).size + (⟨#[41]⟩ : ByteArray).size ≤ 140737488355328) then
 some ((((⟨#[40]⟩ : ByteArray) ++ z1) ++ (⟨#[41]⟩ : ByteArray)))
 else none
 else none
 ) else (
 some (z1)
 )
 )) fun J6 => (
 Option.bind (M_s_l2Sole f p_0) fun zi =>
 bif zi then (
 J6 true
 ) else (
 Option.bind (M_s_l2Plain f z1) fun zj =>
 J6 (!zj)
 )
 )

mutual
def M_s_l2Args : Nat → (List STerm) → Option ByteArray
 | 0, _ => none
 | f + 1, p_0 => B_s_l2Args f (M_s_l2Text f) (M_s_l2List f) (M_s_l2Left f) (M_s_l2Right f) (M_s_l2Args f) (M_s_l2Bracket f) p_0
def M_s_l2Text : Nat → STerm → Option ByteArray
 | 0, _ => none
 | f + 1, p_0 => B_s_l2Text f (M_s_l2Text f) (M_s_l2List f) (M_s_l2Left f) (M_s_l2Right f) (M_s_l2Args f) (M_s_l2Bracket f) p_0
def M_s_l2List : Nat → STerm → Option ByteArray
 | 0, _ => none
 | f + 1, p_0 => B_s_l2List f (M_s_l2Text f) (M_s_l2List f) (M_s_l2Left f) (M_s_l2Right f) (M_s_l2Args f) (M_s_l2Bracket f) p_0
def M_s_l2Left : Nat → STerm → Int → Option ByteArray
 | 0, _, _ => none
 | f + 1, p_0, p_1 => B_s_l2Left f (M_s_l2Text f) (M_s_l2List f) (M_s_l2Left f) (M_s_l2Right f) (M_s_l2Args f) (M_s_l2Bracket f) p_0 p_1
def M_s_l2Bracket : Nat → STerm → Int → Option ByteArray
 | 0, _, _ => none
 | f + 1, p_0, p_1 => B_s_l2Bracket f (M_s_l2Text f) (M_s_l2List f) (M_s_l2Left f) (M_s_l2Right f) (M_s_l2Args f) (M_s_l2Bracket f) p_0 p_1
def M_s_l2Right : Nat → STerm → Int → Option ByteArray
 | 0, _, _ => none
 | f + 1, p_0, p_1 => B_s_l2Right f (M_s_l2Text f) (M_s_l2List f) (M_s_l2Left f) (M_s_l2Right f) (M_s_l2Args f) (M_s_l2Bracket f) p_0 p_1
end

def Q_s_l2Args (c : (List STerm) → Option ByteArray) : Prop := ∀ (p_0 : (List STerm)) (tk_0 : Tk) (r : ByteArray), c p_0 = some r → ∀ (σ_0 : St), AC Tryz.prog 183 [(LTerm p_0 tk_0)] σ_0 (fun v s => v = (.str r) ∧ s = σ_0)

def Q_s_l2Text (c : STerm → Option ByteArray) : Prop := ∀ (p_0 : STerm) (r : ByteArray), c p_0 = some r → ∀ (σ_0 : St), AC Tryz.prog 173 [(.agg (cTerm p_0))] σ_0 (fun v s => v = (.str r) ∧ s = σ_0)

def Q_s_l2List (c : STerm → Option ByteArray) : Prop := ∀ (p_0 : STerm) (r : ByteArray), c p_0 = some r → ∀ (σ_0 : St), AC Tryz.prog 178 [(.agg (cTerm p_0))] σ_0 (fun v s => v = (.str r) ∧ s = σ_0)

def Q_s_l2Left (c : STerm → Int → Option ByteArray) : Prop := ∀ (p_0 : STerm) (p_1 : Int) (r : ByteArray), c p_0 p_1 = some r → ∀ (σ_0 : St), AC Tryz.prog 180 [(.agg (cTerm p_0)), (I p_1)] σ_0 (fun v s => v = (.str r) ∧ s = σ_0)

def Q_s_l2Bracket (c : STerm → Int → Option ByteArray) : Prop := ∀ (p_0 : STerm) (p_1 : Int) (r : ByteArray), c p_0 p_1 = some r → ∀ (σ_0 : St), AC Tryz.prog 187 [(.agg (cTerm p_0)), (I p_1)] σ_0 (fun v s => v = (.str r) ∧ s = σ_0)

def Q_s_l2Right (c : STerm → Int → Option ByteArray) : Prop := ∀ (p_0 : STerm) (p_1 : Int) (r : ByteArray), c p_0 p_1 = some r → ∀ (σ_0 : St), AC Tryz.prog 182 [(.agg (cTerm p_0)), (I p_1)] σ_0 (fun v s => v = (.str r) ∧ s = σ_0)

theorem b_s_l2Args (f : Nat) {c_s_l2Text : STerm → Option ByteArray} (ih_s_l2Text : Q_s_l2Text c_s_l2Text) {c_s_l2List : STerm → Option ByteArray} (ih_s_l2List : Q_s_l2List c_s_l2List) {c_s_l2Left : STerm → Int → Option ByteArray} (ih_s_l2Left : Q_s_l2Left c_s_l2Left) {c_s_l2Right : STerm → Int → Option ByteArray} (ih_s_l2Right : Q_s_l2Right c_s_l2Right) {c_s_l2Args : (List STerm) → Option ByteArray} (ih_s_l2Args : Q_s_l2Args c_s_l2Args) {c_s_l2Bracket : STerm → Int → Option ByteArray} (ih_s_l2Bracket : Q_s_l2Bracket c_s_l2Bracket) : Q_s_l2Args (B_s_l2Args f c_s_l2Text c_s_l2List c_s_l2Left c_s_l2Right c_s_l2Args c_s_l2Bracket) := by
 intro p_0 tk_0 r hM σ_0
 have F_0 := Fr.refl σ_0 []
 unfold B_s_l2Args at hM
 refine AC.of_body Tryz.func183 rfl rfl (by rfl) (by simp [Tryz.f183]) <| SW.seqR fun K0 hK0 => sn rfl <| R.done (hK0 _ _ (SW.seqR fun K1 hK1 => sn rfl (R.done (hK1 _ _ (SW.seqK fun K2 hK2 => ?_)))))
 obtain ⟨J0, eJ0, hM⟩ := jn_elim hM
 have hJ0 : ∀ (v3 : ByteArray) (env0 : Env) (σ0 : St), Fr σ_0 σ0 [] → env0.get 3 = some (.str v3) → J0 v3 = some r → K2 env0 σ0 := by
  intro v3 env0 σ0 F0 h0 hM
  subst eJ0
  refine hK2 _ _ <| SW.seqR fun K3 hK3 => mv h0 <| sn rfl <| R.done (hK3 _ _ (SW.ret ?_))
  obtain rfl := si hM
  exact ret_of (rc rfl rn) (.str v3) σ_0 (Le.refl _) F0.back ⟨rfl, rfl⟩
 clear eJ0
 refine SW.seqR fun K4 hK4 => sn rfl <| R.done (hK4 _ _ (SW.block (SW.loop (LW.ind (I := fun n0 env1 σ1 => ∃ (v0 : ByteArray) (v1 : Int), Fr σ_0 σ1 [] ∧ env1.get 0 = some (LTerm p_0 tk_0) ∧ env1.get 3 = some (.str v0) ∧ env1.get 4 = some (I v1) ∧ L_s_l2Args_1 c_s_l2Text p_0 J0 n0 v0 v1 = some r) ?_ f _ _ ⟨(⟨#[]⟩ : ByteArray), 0, F_0, rfl, rfl, rfl, hM⟩))))
 rintro n0 env1 σ1 ⟨v0, v1, F1, h1, h2, h3, hM⟩
 cases n0 with
 | zero => (rw [L_s_l2Args_1] at hM; cases hM)
 | succ n0 =>
  rw [L_s_l2Args_1] at hM
  refine SW.seq <| SW.seqR fun K5 hK5 => mv h3 <| mv h1 <| R.op rfl (a_lenImm ti23 rfl rfl (n := (p_0.length : Int)) (by simp) (it rfl rfl rfl (R.done (hK5 _ _ (SW.cond rfl (fun hb0 => ?_) (fun hb0 => ?_))))))
  · have hM := cT hb0 hM
    refine SW.skip <| SW.seq <| SW.block <| SW.seqK fun K6 hK6 => ?_
    obtain ⟨J1, eJ1, hM⟩ := jn_elim hM
    have hJ1 : ∀ (v2 : ByteArray) (env2 : Env) (σ2 : St), Fr σ_0 σ2 [] → env2.get 0 = some (LTerm p_0 tk_0) → env2.get 3 = some (.str v2) → env2.get 4 = some (I v1) → J1 v2 = some r → K6 env2 σ2 := by
     intro v2 env2 σ2 F2 h4 h5 h6 hM
     subst eJ1
     refine hK6 _ _ <| SW.region <| mv h5 <| mv h4 <| mv h6 ?_
     obtain ⟨hg0, hM⟩ := gd hM
     obtain ⟨x0, hx0, hM⟩ := bd hM
     refine R.op rfl (a_idxImm (f := eTerm) (xs := p_0) (n := v1) (e := x0) (v := (.agg (cTerm x0))) ti23 rfl ti25 rfl rfl rfl (od hg0) hx0 (eTerm_eq x0) (li (v := (.agg (cTerm x0))) ti25 rfl rfl ?_))
     obtain ⟨z0, hr0, hM⟩ := bd hM
     refine cp (ih_s_l2Text x0 z0 hr0 _) rfl (oc rfl on) (LeL.refl _) ?_
     obtain ⟨hg1, hM⟩ := gd hM
     refine sr (a := v2) (b := z0) (v := (.str (v2 ++ z0))) rfl rfl (if_pos (od hg1)) <| sn rfl <| R.done <| SW.region <| mv h6 <| it rfl rfl rfl <| sn rfl <| R.done ?_
     exact ⟨n0, Nat.lt_succ_self _, (v2 ++ z0), (IntKind.wrap .i64 (v1 + 1)), F2, h4, rfl, rfl, hM⟩
    clear eJ1
    refine SW.seqR fun K7 hK7 => mv h3 <| it rfl rfl rfl <| R.done (hK7 _ _ (SW.cond rfl (fun hb1 => ?_) (fun hb1 => ?_)))
    · have hM := cT hb1 hM
      refine SW.region <| mv h2 ?_
      obtain ⟨hg2, hM⟩ := gd hM
      refine sr (a := v0) (b := (⟨#[44]⟩ : ByteArray)) (v := (.str (v0 ++ (⟨#[44]⟩ : ByteArray)))) rfl rfl (if_pos (od hg2)) <| sn rfl <| R.done ?_
      exact hJ1 (v0 ++ (⟨#[44]⟩ : ByteArray)) _ _ F1 h1 rfl h3 hM
    · have hM := cF hb1 hM
      refine SW.skip ?_
      exact hJ1 v0 _ _ F1 h1 h2 h3 hM
  · have hM := cF hb0 hM
    refine SW.exit <| Qte <| Qte <| Qbx ?_
    exact hJ0 v0 _ _ F1 h2 hM

theorem b_s_l2Text (f : Nat) {c_s_l2Text : STerm → Option ByteArray} (ih_s_l2Text : Q_s_l2Text c_s_l2Text) {c_s_l2List : STerm → Option ByteArray} (ih_s_l2List : Q_s_l2List c_s_l2List) {c_s_l2Left : STerm → Int → Option ByteArray} (ih_s_l2Left : Q_s_l2Left c_s_l2Left) {c_s_l2Right : STerm → Int → Option ByteArray} (ih_s_l2Right : Q_s_l2Right c_s_l2Right) {c_s_l2Args : (List STerm) → Option ByteArray} (ih_s_l2Args : Q_s_l2Args c_s_l2Args) {c_s_l2Bracket : STerm → Int → Option ByteArray} (ih_s_l2Bracket : Q_s_l2Bracket c_s_l2Bracket) : Q_s_l2Text (B_s_l2Text f c_s_l2Text c_s_l2List c_s_l2Left c_s_l2Right c_s_l2Args c_s_l2Bracket) := by
 intro p_0 r hM σ_0
 have F_0 := Fr.refl σ_0 []
 unfold B_s_l2Text at hM
 refine AC.of_body Tryz.func173 rfl rfl (by rfl) (by simp [Tryz.f173]) <| SW.seqR fun K0 hK0 => R.op rfl (a_box (v := (.agg (cTerm p_0))) rfl rfl fun a0 σ3 n1 s0 hF0 => ?_)
 have lo0 := F_0.lo1 n1
 have F3 := F_0.andThen hF0 Lo.nil
 refine sn rfl <| R.done (hK0 _ _ (SW.seq (SW.block (SW.seqR fun K8 hK8 => ld (v := (.agg (cTerm p_0))) ti25 rfl s0 rfl ?_))))
 obtain ⟨z1, hr1, hM⟩ := bd hM
 refine cp (r_s_l1Pair f p_0 z1 hr1 _) rfl (oc rfl on) (LeL.refl _) <| sn rfl <| R.done (hK8 _ _ (SW.cond rfl (fun hb2 => ?_) (fun hb2 => ?_)))
 · have hM := cT hb2 hM
   refine SW.seqR fun K9 hK9 => ld (v := (.agg (cTerm p_0))) ti25 rfl s0 rfl ?_
   obtain ⟨z2, hr2, hM⟩ := bd hM
   refine cp (ih_s_l2List p_0 z2 hr2 _) rfl (oc rfl on) (LeL.refl _) <| sn rfl <| R.done (hK9 _ _ (SW.ret (Qb (Qt ?_))))
   obtain rfl := si hM
   exact ret_of (rc rfl rn) (.str z2) σ_0 (Le.refl _) F3.back ⟨rfl, rfl⟩
 · have hM := cF hb2 hM
   refine SW.seqR fun Ka hKa => ld (v := (.agg (cTerm p_0))) ti25 rfl s0 rfl ?_
   obtain ⟨z3, hr3, hM⟩ := bd hM
   refine cp (r_s_l2Infix f p_0 z3 hr3 _) rfl (oc rfl on) (LeL.refl _) <| sn rfl <| R.done (hKa _ _ (SW.cond rfl (fun hb3 => ?_) (fun hb3 => ?_)))
   · have hM := cT hb3 hM
     refine SW.seqR fun Kb hKb => fp ti25 rfl rfl rfl (by decide) <| ld ti9 rfl s0 rfl ?_
     obtain ⟨z4, hr4, hM⟩ := bd hM
     refine cp (r_s_l2Level f p_0.name z4 hr4 _) rfl (oc rfl on) (LeL.refl _) <| sn rfl <| R.done (hKb _ _ (SW.seqR fun Kc hKc => mv rfl (sn rfl (R.done (hKc _ _ (SW.seqK fun Kd hKd => ?_))))))
     obtain ⟨J2, eJ2, hM⟩ := jn_elim hM
     have hJ2 : ∀ (v4 : Int) (env3 : Env) (σ4 : St), Fr σ_0 σ4 [] → env3.get 1 = some (.ptr a0 0) → env3.get 3 = some (I z4) → env3.get 4 = some (I v4) → σ4 a0 = some (.cells (cTerm p_0)) → J2 v4 = some r → Kd env3 σ4 := by
      intro v4 env3 σ4 F4 h7 h8 h9 s1 hM
      subst eJ2
      refine hKd _ _ <| SW.seqK fun Ke hKe => SW.draw' mixed [(0, false), (4, false), (6, false), (10, false), (14, false), (15, false), (1, false), (2, false), (3, false), (7, true), (11, true), (12, false), (13, true), (5, true), (8, true), (9, false), (16, false), (17, false), (18, false)] [(a0, wLod ⟨1, 24, false, (some (.imm 0 [] .full)), (.slice 25)⟩ 3 (LTerm p_0.kids .no)), (a0, wLod ⟨1, 16, false, (some (.str ⟨#[]⟩)), .string⟩ 2 (.str p_0.name))] [] (by kernel_rfl) (by kernel_rfl) (fun t ht => by simp at ht) <| D.op rfl rfl (a_fieldPtr ti25 rfl h7 rfl (by decide) (D.op rfl rfl (a_move h9 (D.op rfl rfl (a_fieldPtr ti25 rfl h7 rfl (by decide) (D.op rfl rfl (a_fieldPtr ti25 rfl h7 rfl (by decide) (D.op rfl rfl (a_move h8 (D.op rfl rfl (a_int rfl rfl rfl (D.op rfl rfl (a_loadPtr ti23 rfl s1 rfl ?_)))))))))))))
      obtain ⟨x1, hx1, hM⟩ := bd hM
      refine D.op rfl rfl (a_idxImm (f := eTerm) (xs := p_0.kids) (n := 0) (e := x1) (v := (.agg (cTerm x1))) ti23 rfl ti25 rfl rfl rfl (by decide) hx1 (eTerm_eq x1) (D.op rfl rfl (a_loadIptr (v := (.agg (cTerm x1))) ti25 rfl rfl (D.rd rfl rfl (wat_lod s1 rfl (wat_lod s1 rfl wat_nil)) (lk_load ti9 rfl (wat_lod s1 rfl (wat_lod s1 rfl wat_nil)) (.tail _ (.head _))) rfl (a_loadPtr ti9 rfl s1 rfl (D.rd rfl rfl (wat_lod s1 rfl (wat_lod s1 rfl wat_nil)) (lk_load ti23 rfl (wat_lod s1 rfl (wat_lod s1 rfl wat_nil)) (.head _)) rfl (a_loadPtr ti23 rfl s1 rfl ?_)))))))
      obtain ⟨x2, hx2, hM⟩ := bd hM
      refine D.op rfl rfl (a_idxImm (f := eTerm) (xs := p_0.kids) (n := 1) (e := x2) (v := (.agg (cTerm x2))) ti23 rfl ti25 rfl rfl rfl (by decide) hx2 (eTerm_eq x2) (D.rd rfl rfl (wat_lod s1 rfl (wat_lod s1 rfl wat_nil)) (lk_iptr rfl) rfl (a_loadIptr (v := (.agg (cTerm x2))) ti25 rfl rfl ?_)))
      obtain ⟨z5, hr5, hM⟩ := bd hM
      refine D.wk rfl rfl (wat_lod s1 rfl (wat_lod s1 rfl wat_nil)) rfl (a_call (g := 180) rfl (oc rfl (oc rfl on)) (AC.goP (ih_s_l2Left x1 v4 z5 hr5 _) (LeL.refl _) (⟨(wat_lod s1 rfl (wat_lod s1 rfl wat_nil)), ?_⟩)))
      obtain ⟨z6, hr6, hM⟩ := bd hM
      refine D.wk rfl rfl (wat_lod s1 rfl (wat_lod s1 rfl wat_nil)) rfl (a_call (g := 181) rfl (oc rfl on) (AC.goP (r_s_l2Spaced f p_0.name z6 hr6 _) (LeL.refl _) (⟨(wat_lod s1 rfl (wat_lod s1 rfl wat_nil)), ?_⟩)))
      obtain ⟨hg3, hM⟩ := gd hM
      refine D.op rfl rfl (a_str (a := z5) (b := z6) (v := (.str (z5 ++ z6))) rfl rfl (if_pos (od hg3)) ?_)
      obtain ⟨z7, hr7, hM⟩ := bd hM
      refine D.op rfl rfl (a_call (g := 182) rfl (oc rfl (oc rfl on)) (AC.goP (ih_s_l2Right x2 (IntKind.wrap .i64 (z4 - 1)) z7 hr7 _) (LeL.refl _) ?_))
      obtain ⟨hg4, hM⟩ := gd hM
      refine D.op rfl rfl (a_str (a := (z5 ++ z6)) (b := z7) (v := (.str ((z5 ++ z6) ++ z7))) rfl rfl (if_pos (od hg4)) (D.op rfl rfl (a_assign rfl (D.done (hKe _ _ (SW.ret (Qb (Qt ?_))))))))
      obtain rfl := si hM
      exact ret_of (rc rfl rn) (.str ((z5 ++ z6) ++ z7)) σ_0 (Le.refl _) F4.back ⟨rfl, rfl⟩
     clear eJ2
     refine SW.seqR fun Kf hKf => mv rfl <| it rfl rfl rfl <| R.done (hKf _ _ (SW.cond rfl (fun hb4 => ?_) (fun hb4 => ?_)))
     · have hM := cT hb4 hM
       refine SW.region <| sn rfl <| R.done ?_
       exact hJ2 2 _ _ F3 rfl rfl rfl s0 hM
     · have hM := cF hb4 hM
       refine SW.skip ?_
       exact hJ2 z4 _ _ F3 rfl rfl rfl s0 hM
   · have hM := cF hb3 hM
     refine SW.seqK fun Kg hKg => ?_
     obtain ⟨J3, eJ3, hM⟩ := jn_elim hM
     have hJ3 : ∀ (v5 : Bool) (env4 : Env) (σ5 : St), Fr σ_0 σ5 [] → env4.get 1 = some (.ptr a0 0) → env4.get 37 = some (.bool v5) → σ5 a0 = some (.cells (cTerm p_0)) → J3 v5 = some r → Kg env4 σ5 := by
      intro v5 env4 σ5 F5 ha hb s2 hM
      subst eJ3
      refine hKg _ _ <| SW.cond hb (fun hb5 => ?_) (fun hb5 => ?_)
      · have hM := cT hb5 hM
        refine SW.seqK fun Kh hKh => SW.draw' mixed [(0, false), (3, false), (1, true), (2, false), (4, false), (5, true), (6, false), (7, false), (8, false)] [(a0, wLod ⟨1, 16, false, (some (.str ⟨#[]⟩)), .string⟩ 2 (.str p_0.name))] [] (by kernel_rfl) (by kernel_rfl) (fun t ht => by simp at ht) <| D.op rfl rfl (a_fieldPtr ti25 rfl ha rfl (by decide) (D.op rfl rfl (a_fieldPtr ti25 rfl ha rfl (by decide) (D.rd rfl rfl (wat_lod s2 rfl wat_nil) (lk_load ti9 rfl (wat_lod s2 rfl wat_nil) (.head _)) rfl (a_loadPtr ti9 rfl s2 rfl ?_)))))
        obtain ⟨hg5, hM⟩ := gd hM
        refine D.op rfl rfl (a_str (a := p_0.name) (b := (⟨#[40]⟩ : ByteArray)) (v := (.str (p_0.name ++ (⟨#[40]⟩ : ByteArray)))) rfl rfl (if_pos (od hg5)) (D.op rfl rfl (a_loadPtr ti23 rfl s2 rfl ?_)))
        obtain ⟨z8, hr8, hM⟩ := bd hM
        refine D.wk rfl rfl (wat_lod s2 rfl wat_nil) rfl (a_call (g := 183) rfl (oc rfl on) (AC.goP (ih_s_l2Args p_0.kids .no z8 hr8 _) (LeL.refl _) (⟨(wat_lod s2 rfl wat_nil), ?_⟩)))
        obtain ⟨hg6, hM⟩ := gd hM
        refine D.op rfl rfl (a_str (a := (p_0.name ++ (⟨#[40]⟩ : ByteArray))) (b := z8) (v := (.str ((p_0.name ++ (⟨#[40]⟩ : ByteArray)) ++ z8))) rfl rfl (if_pos (od hg6)) ?_)
        obtain ⟨hg7, hM⟩ := gd hM
        refine D.op rfl rfl (a_str (a := ((p_0.name ++ (⟨#[40]⟩ : ByteArray)) ++ z8)) (b := (⟨#[41]⟩ : ByteArray)) (v := (.str (((p_0.name ++ (⟨#[40]⟩ : ByteArray)) ++ z8) ++ (⟨#[41]⟩ : ByteArray)))) rfl rfl (if_pos (od hg7)) (D.op rfl rfl (a_assign rfl (D.done (hKh _ _ (SW.ret (Qb (Qt ?_))))))))
        obtain rfl := si hM
        exact ret_of (rc rfl rn) (.str (((p_0.name ++ (⟨#[40]⟩ : ByteArray)) ++ z8) ++ (⟨#[41]⟩ : ByteArray))) σ_0 (Le.refl _) F5.back ⟨rfl, rfl⟩
      · have hM := cF hb5 hM
        refine SW.skip <| SW.seqR fun Ki hKi => ld (v := (.agg (cTerm p_0))) ti25 ha s2 rfl ?_
        obtain ⟨z9, hr9, hM⟩ := bd hM
        refine cp (r_s_l1Text f p_0 z9 hr9 _) rfl (oc rfl on) (LeL.refl _) <| sn rfl <| R.done (hKi _ _ (SW.ret ?_))
        obtain rfl := si hM
        exact ret_of (rc rfl rn) (.str z9) σ_0 (Le.refl _) F5.back ⟨rfl, rfl⟩
     clear eJ3
     refine SW.region <| fp ti25 rfl rfl rfl (by decide) <| ld ti3 rfl s0 rfl <| it rfl rfl rfl <| mv rfl ?_
     rcases bcase (p_0.kind == 3) with hb6 | hb6
     · have hM := cT hb6 hM
       refine R.go (p_0.kind == 3) rfl hb6 (a_fieldPtr ti25 rfl rfl rfl (by decide) (R.go (p_0.kind == 3) rfl hb6 (a_loadPtr ti23 rfl s0 rfl (R.go (p_0.kind == 3) rfl hb6 (a_lenImm ti23 rfl rfl (n := (p_0.kids.length : Int)) (by simp) (R.go (p_0.kind == 3) rfl hb6 (a_int rfl rfl rfl (R.op rfl (a_pickT rfl hb6 rfl (sn rfl (R.done ?_)))))))))))
       exact hJ3 (decide (0 < (p_0.kids.length : Int))) _ _ F3 rfl rfl s0 hM
     · have hM := cF hb6 hM
       refine R.not (p_0.kind == 3) rfl hb6 <| R.not (p_0.kind == 3) rfl hb6 <| R.not (p_0.kind == 3) rfl hb6 <| R.not (p_0.kind == 3) rfl hb6 <| R.op rfl (a_pickF rfl hb6 rfl (sn rfl (R.done ?_)))
       exact hJ3 false _ _ F3 rfl rfl s0 hM

theorem b_s_l2List (f : Nat) {c_s_l2Text : STerm → Option ByteArray} (ih_s_l2Text : Q_s_l2Text c_s_l2Text) {c_s_l2List : STerm → Option ByteArray} (ih_s_l2List : Q_s_l2List c_s_l2List) {c_s_l2Left : STerm → Int → Option ByteArray} (ih_s_l2Left : Q_s_l2Left c_s_l2Left) {c_s_l2Right : STerm → Int → Option ByteArray} (ih_s_l2Right : Q_s_l2Right c_s_l2Right) {c_s_l2Args : (List STerm) → Option ByteArray} (ih_s_l2Args : Q_s_l2Args c_s_l2Args) {c_s_l2Bracket : STerm → Int → Option ByteArray} (ih_s_l2Bracket : Q_s_l2Bracket c_s_l2Bracket) : Q_s_l2List (B_s_l2List f c_s_l2Text c_s_l2List c_s_l2Left c_s_l2Right c_s_l2Args c_s_l2Bracket) := by
 intro p_0 r hM σ_0
 have F_0 := Fr.refl σ_0 []
 unfold B_s_l2List at hM
 refine AC.of_body Tryz.func178 rfl rfl (by rfl) (by simp [Tryz.f178]) <| SW.seqR fun K0 hK0 => R.op rfl (a_box (v := (.agg (cTerm p_0))) rfl rfl fun a0 σ3 n1 s0 hF0 => ?_)
 have lo0 := F_0.lo1 n1
 have F3 := F_0.andThen hF0 Lo.nil
 refine sn rfl <| R.done (hK0 _ _ (SW.seqR fun K8 hK8 => R.op rfl (a_buildSlice (v := (LTerm ([] : List STerm) .full)) (bsv_of ti23 rfl ti25 pn rfl ⟨rfl, by decide, by decide, rfl⟩) (sn rfl (R.done (hK8 _ _ (SW.seqK fun Kj hKj => ?_)))))))
 obtain ⟨J4, eJ4, hM⟩ := jn_elim hM
 have hJ4 : ∀ (vb : List STerm) (vc : Int) (vd : Int) (ve : ByteArray) (vf : List STerm) (tk0 : Tk) (env5 : Env) (σ6 : St), Fr σ_0 σ6 [] → env5.get 1 = some (.ptr a0 0) → env5.get 3 = some (LTerm vb tk0) → σ6 a0 = some (.cells [(I vc), (I vd), (.str ve), (LTerm vf .no)]) → TokOk σ6 tk0 vb.length 4 → Lo σ_0 [] (tkNames tk0) → J4 vb vc vd ve vf = some r → Kj env5 σ6 := by
  intro vb vc vd ve vf tk0 env5 σ6 F6 hc hd s3 t0 lo2 hM
  subst eJ4
  refine hKj _ _ <| SW.seq <| SW.seqR fun Kk hKk => ld (v := (.agg [(I vc), (I vd), (.str ve), (LTerm vf .no)])) ti25 hc s3 rfl ?_
  obtain ⟨zb, hra, hM⟩ := bd hM
  refine cp (r_s_l1Nil f (STerm.mk vc vd ve vf) zb hra _) rfl (oc rfl on) (LeL.refl _) <| R.done (hKk _ _ (SW.cond rfl (fun hb7 => ?_) (fun hb7 => ?_)))
  · have hM := cT hb7 hM
    refine SW.seqR fun Kl hKl => mv hd ?_
    obtain ⟨zc, hrb, hM⟩ := bd hM
    refine cp (ih_s_l2Args vb tk0 zc hrb _) rfl (oc rfl on) (LeL.refl _) ?_
    obtain ⟨hg8, hM⟩ := gd hM
    refine sr (a := (⟨#[91]⟩ : ByteArray)) (b := zc) (v := (.str ((⟨#[91]⟩ : ByteArray) ++ zc))) rfl rfl (if_pos (od hg8)) ?_
    obtain ⟨hg9, hM⟩ := gd hM
    refine sr (a := ((⟨#[91]⟩ : ByteArray) ++ zc)) (b := (⟨#[93]⟩ : ByteArray)) (v := (.str (((⟨#[91]⟩ : ByteArray) ++ zc) ++ (⟨#[93]⟩ : ByteArray)))) rfl rfl (if_pos (od hg9)) <| sn rfl <| R.done (hKl _ _ (SW.ret (Qt ?_)))
    obtain rfl := si hM
    exact ret_of (rc rfl rn) (.str (((⟨#[91]⟩ : ByteArray) ++ zc) ++ (⟨#[93]⟩ : ByteArray))) σ_0 (Le.refl _) F6.back ⟨rfl, rfl⟩
  · have hM := cF hb7 hM
    refine SW.skip <| SW.seqK fun Km hKm => SW.draw' mixed [(0, false), (4, true), (1, true), (2, false), (3, false), (5, false), (6, false), (7, false), (8, false)] [(a0, wLod ⟨4, 56, true, (some (.agg [.int .i64 0, .int .i64 0, .str ⟨#[]⟩, .imm 0 [] .full])), (.struct [(0, 1, false), (1, 1, false), (2, 1, false), (3, 1, false)] none)⟩ 0 (.agg [(I vc), (I vd), (.str ve), (LTerm vf .no)]))] [] (by kernel_rfl) (by kernel_rfl) (fun t ht => by simp at ht) <| D.op rfl rfl (a_move hd (D.rd rfl rfl (wat_lod s3 rfl wat_nil) (lk_load ti25 hc (wat_lod s3 rfl wat_nil) (.head _)) rfl (a_loadPtr (v := (.agg [(I vc), (I vd), (.str ve), (LTerm vf .no)])) ti25 hc s3 rfl ?_)))
    obtain ⟨zd, hrc, hM⟩ := bd hM
    refine D.wk rfl rfl (wat_lod s3 rfl wat_nil) rfl (a_call (g := 183) rfl (oc rfl on) (AC.goP (ih_s_l2Args vb tk0 zd hrc _) (LeL.refl _) (⟨(wat_lod s3 rfl wat_nil), ?_⟩)))
    obtain ⟨hga, hM⟩ := gd hM
    refine D.op rfl rfl (a_str (a := (⟨#[91]⟩ : ByteArray)) (b := zd) (v := (.str ((⟨#[91]⟩ : ByteArray) ++ zd))) rfl rfl (if_pos (od hga)) ?_)
    obtain ⟨hgb, hM⟩ := gd hM
    refine D.op rfl rfl (a_str (a := ((⟨#[91]⟩ : ByteArray) ++ zd)) (b := (⟨#[124]⟩ : ByteArray)) (v := (.str (((⟨#[91]⟩ : ByteArray) ++ zd) ++ (⟨#[124]⟩ : ByteArray)))) rfl rfl (if_pos (od hgb)) ?_)
    obtain ⟨ze, hrd, hM⟩ := bd hM
    refine D.op rfl rfl (a_call (g := 173) rfl (oc rfl on) (AC.goP (ih_s_l2Text (STerm.mk vc vd ve vf) ze hrd _) (LeL.refl _) ?_))
    obtain ⟨hgc, hM⟩ := gd hM
    refine D.op rfl rfl (a_str (a := (((⟨#[91]⟩ : ByteArray) ++ zd) ++ (⟨#[124]⟩ : ByteArray))) (b := ze) (v := (.str ((((⟨#[91]⟩ : ByteArray) ++ zd) ++ (⟨#[124]⟩ : ByteArray)) ++ ze))) rfl rfl (if_pos (od hgc)) ?_)
    obtain ⟨hgd, hM⟩ := gd hM
    refine D.op rfl rfl (a_str (a := ((((⟨#[91]⟩ : ByteArray) ++ zd) ++ (⟨#[124]⟩ : ByteArray)) ++ ze)) (b := (⟨#[93]⟩ : ByteArray)) (v := (.str (((((⟨#[91]⟩ : ByteArray) ++ zd) ++ (⟨#[124]⟩ : ByteArray)) ++ ze) ++ (⟨#[93]⟩ : ByteArray)))) rfl rfl (if_pos (od hgd)) (D.op rfl rfl (a_assign rfl (D.done (hKm _ _ (SW.ret ?_))))))
    obtain rfl := si hM
    exact ret_of (rc rfl rn) (.str (((((⟨#[91]⟩ : ByteArray) ++ zd) ++ (⟨#[124]⟩ : ByteArray)) ++ ze) ++ (⟨#[93]⟩ : ByteArray))) σ_0 (Le.refl _) F6.back ⟨rfl, rfl⟩
 clear eJ4
 refine SW.block <| SW.loop <| LW.ind (I := fun n2 env6 σ7 => ∃ (v6 : List STerm) (v7 : Int) (v8 : Int) (v9 : ByteArray) (va : List STerm) (tk1 : Tk), Fr σ_0 σ7 [] ∧ env6.get 1 = some (.ptr a0 0) ∧ env6.get 3 = some (LTerm v6 tk1) ∧ σ7 a0 = some (.cells [(I v7), (I v8), (.str v9), (LTerm va .no)]) ∧ TokOk σ7 tk1 v6.length 4 ∧ Lo σ_0 [] (tkNames tk1) ∧ L_s_l2List_1 f J4 n2 v6 v7 v8 v9 va = some r) ?_ f _ _ ⟨([] : List STerm), p_0.kind, p_0.n, p_0.name, p_0.kids, .full, F3, rfl, rfl, s0, trivial, Lo.full, hM⟩
 rintro n2 env6 σ7 ⟨v6, v7, v8, v9, va, tk1, F7, he, hf, s4, t1, lo3, hM⟩
 cases n2 with
 | zero => (rw [L_s_l2List_1] at hM; cases hM)
 | succ n2 =>
  rw [L_s_l2List_1] at hM
  refine SW.seq <| SW.seqR fun Kn hKn => ld (v := (.agg [(I v7), (I v8), (.str v9), (LTerm va .no)])) ti25 he s4 rfl ?_
  obtain ⟨za, hre, hM⟩ := bd hM
  refine cp (r_s_l1Pair f (STerm.mk v7 v8 v9 va) za hre _) rfl (oc rfl on) (LeL.refl _) <| R.done (hKn _ _ (SW.cond rfl (fun hb8 => ?_) (fun hb8 => ?_)))
  · have hM := cT hb8 hM
    refine SW.skip <| SW.block <| SW.seqR fun Ko hKo => mv hf <| fp ti25 rfl he rfl (by decide) <| ld ti23 rfl s4 rfl ?_
    obtain ⟨x3, hx3, hM⟩ := bd hM
    refine R.op rfl (a_idxImm (f := eTerm) (xs := va) (n := 0) (e := x3) (v := (.agg (cTerm x3))) ti23 rfl ti25 rfl rfl rfl (by decide) hx3 (eTerm_eq x3) (li (v := (.agg (cTerm x3))) ti25 rfl rfl (R.op rfl (a_buildSlice (v := (LTerm ([x3]) .full)) (bsv_of' (es := [(.agg (cTerm x3))]) ti23 rfl ti25 (pc rfl pn) rfl ⟨rfl, by decide, by decide, rfl⟩ (by simp only [List.map_cons, List.map_nil, eTerm_eq])) ?_))))
    obtain ⟨hge, hM⟩ := gd hM
    refine R.op rfl (a_append (es := List.map eTerm v6) (ds := List.map eTerm ([x3])) (rs := List.map eTerm (v6 ++ ([x3]))) ti23 rfl ti23 rfl ti25 rfl rfl (.inl rfl) rfl rfl (by decide) (by decide) (by simpa using od hge) (.inl rfl) (t1.len (by first | rfl | simp)) (by simp) fun tk2 σ8 t2 hF1 nn0 => ?_)
    have lo4 := F7.loTk lo3 nn0
    have s5 := hF1.keep s4 (tok_cells t1 s4)
    have F8 := F7.andThen hF1 lo3
    refine sn rfl <| R.done (hKo _ _ (SW.region (fp ti25 rfl he rfl (by decide) (ld ti23 rfl s5 rfl ?_))))
    obtain ⟨x4, hx4, hM⟩ := bd hM
    refine R.op rfl (a_idxImm (f := eTerm) (xs := va) (n := 1) (e := x4) (v := (.agg (cTerm x4))) ti23 rfl ti25 rfl rfl rfl (by decide) hx4 (eTerm_eq x4) (li (v := (.agg (cTerm x4))) ti25 rfl rfl (R.op rfl (a_store (cs' := (cTerm x4)) ti25 he rfl s5 rfl (nb rfl) rfl rfl fun σ9 s6 hF2 => ?_))))
    have t3 := t2.keep hF2 (not1 (tok_cells t2 s5))
    have F9 := F8.andThen hF2 lo0
    refine R.done ?_
    exact ⟨n2, Nat.lt_succ_self _, (v6 ++ ([x3])), x4.kind, x4.n, x4.name, x4.kids, tk2, F9, he, rfl, s6, (t3.len (by first | rfl | simp)), lo4, hM⟩
  · have hM := cF hb8 hM
    refine SW.exit <| Qte <| Qte <| Qbx ?_
    exact hJ4 v6 v7 v8 v9 va tk1 _ _ F7 he hf s4 (t1.len (by first | rfl | simp)) lo3 hM

theorem b_s_l2Left (f : Nat) {c_s_l2Text : STerm → Option ByteArray} (ih_s_l2Text : Q_s_l2Text c_s_l2Text) {c_s_l2List : STerm → Option ByteArray} (ih_s_l2List : Q_s_l2List c_s_l2List) {c_s_l2Left : STerm → Int → Option ByteArray} (ih_s_l2Left : Q_s_l2Left c_s_l2Left) {c_s_l2Right : STerm → Int → Option ByteArray} (ih_s_l2Right : Q_s_l2Right c_s_l2Right) {c_s_l2Args : (List STerm) → Option ByteArray} (ih_s_l2Args : Q_s_l2Args c_s_l2Args) {c_s_l2Bracket : STerm → Int → Option ByteArray} (ih_s_l2Bracket : Q_s_l2Bracket c_s_l2Bracket) : Q_s_l2Left (B_s_l2Left f c_s_l2Text c_s_l2List c_s_l2Left c_s_l2Right c_s_l2Args c_s_l2Bracket) := by
 intro p_0 p_1 r hM σ_0
 have F_0 := Fr.refl σ_0 []
 unfold B_s_l2Left at hM
 refine AC.of_body Tryz.func180 rfl rfl (by rfl) (by simp [Tryz.f180]) <| SW.seqR fun K0 hK0 => R.op rfl (a_box (v := (.agg (cTerm p_0))) rfl rfl fun a0 σ3 n1 s0 hF0 => ?_)
 have lo0 := F_0.lo1 n1
 have F3 := F_0.andThen hF0 Lo.nil
 refine sn rfl <| R.done (hK0 _ _ (SW.seq (SW.seqR fun K8 hK8 => ld (v := (.agg (cTerm p_0))) ti25 rfl s0 rfl ?_)))
 obtain ⟨z1, hr1, hM⟩ := bd hM
 refine cp (r_s_l2Sole f p_0 z1 hr1 _) rfl (oc rfl on) (LeL.refl _) <| R.done (hK8 _ _ (SW.cond rfl (fun hb2 => ?_) (fun hb2 => ?_)))
 · have hM := cT hb2 hM
   refine SW.seqR fun K9 hK9 => ld (v := (.agg (cTerm p_0))) ti25 rfl s0 rfl ?_
   obtain ⟨z2, hr2, hM⟩ := bd hM
   refine cp (ih_s_l2Text p_0 z2 hr2 _) rfl (oc rfl on) (LeL.refl _) ?_
   obtain ⟨hgf, hM⟩ := gd hM
   refine sr (a := (⟨#[40]⟩ : ByteArray)) (b := z2) (v := (.str ((⟨#[40]⟩ : ByteArray) ++ z2))) rfl rfl (if_pos (od hgf)) ?_
   obtain ⟨hgg, hM⟩ := gd hM
   refine sr (a := ((⟨#[40]⟩ : ByteArray) ++ z2)) (b := (⟨#[41]⟩ : ByteArray)) (v := (.str (((⟨#[40]⟩ : ByteArray) ++ z2) ++ (⟨#[41]⟩ : ByteArray)))) rfl rfl (if_pos (od hgg)) <| sn rfl <| R.done (hK9 _ _ (SW.ret (Qt ?_)))
   obtain rfl := si hM
   exact ret_of (rc rfl rn) (.str (((⟨#[40]⟩ : ByteArray) ++ z2) ++ (⟨#[41]⟩ : ByteArray))) σ_0 (Le.refl _) F3.back ⟨rfl, rfl⟩
 · have hM := cF hb2 hM
   refine SW.skip <| SW.seqR fun Kp hKp => ld (v := (.agg (cTerm p_0))) ti25 rfl s0 rfl <| mv rfl ?_
   obtain ⟨zf, hrf, hM⟩ := bd hM
   refine cp (ih_s_l2Bracket p_0 p_1 zf hrf _) rfl (oc rfl (oc rfl on)) (LeL.refl _) <| sn rfl <| R.done (hKp _ _ (SW.ret ?_))
   obtain rfl := si hM
   exact ret_of (rc rfl rn) (.str zf) σ_0 (Le.refl _) F3.back ⟨rfl, rfl⟩

theorem b_s_l2Bracket (f : Nat) {c_s_l2Text : STerm → Option ByteArray} (ih_s_l2Text : Q_s_l2Text c_s_l2Text) {c_s_l2List : STerm → Option ByteArray} (ih_s_l2List : Q_s_l2List c_s_l2List) {c_s_l2Left : STerm → Int → Option ByteArray} (ih_s_l2Left : Q_s_l2Left c_s_l2Left) {c_s_l2Right : STerm → Int → Option ByteArray} (ih_s_l2Right : Q_s_l2Right c_s_l2Right) {c_s_l2Args : (List STerm) → Option ByteArray} (ih_s_l2Args : Q_s_l2Args c_s_l2Args) {c_s_l2Bracket : STerm → Int → Option ByteArray} (ih_s_l2Bracket : Q_s_l2Bracket c_s_l2Bracket) : Q_s_l2Bracket (B_s_l2Bracket f c_s_l2Text c_s_l2List c_s_l2Left c_s_l2Right c_s_l2Args c_s_l2Bracket) := by
 intro p_0 p_1 r hM σ_0
 have F_0 := Fr.refl σ_0 []
 unfold B_s_l2Bracket at hM
 refine AC.of_body Tryz.func187 rfl rfl (by rfl) (by simp [Tryz.f187]) <| SW.seqR fun K0 hK0 => R.op rfl (a_box (v := (.agg (cTerm p_0))) rfl rfl fun a0 σ3 n1 s0 hF0 => ?_)
 have lo0 := F_0.lo1 n1
 have F3 := F_0.andThen hF0 Lo.nil
 refine sn rfl <| R.done (hK0 _ _ (SW.seq (SW.seqK fun Ka hKa => ?_)))
 obtain ⟨J5, eJ5, hM⟩ := jn_elim hM
 have hJ5 : ∀ (vg : Bool) (env7 : Env) (σa : St), Fr σ_0 σa [] → env7.get 2 = some (.ptr a0 0) → env7.get 13 = some (.bool vg) → σa a0 = some (.cells (cTerm p_0)) → J5 vg = some r → Ka env7 σa := by
  intro vg env7 σa Fa hg hh s7 hM
  subst eJ5
  refine hKa _ _ <| SW.cond hh (fun hb9 => ?_) (fun hb9 => ?_)
  · have hM := cT hb9 hM
    refine SW.seqR fun Kq hKq => ld (v := (.agg (cTerm p_0))) ti25 hg s7 rfl ?_
    obtain ⟨zg, hrg, hM⟩ := bd hM
    refine cp (ih_s_l2Text p_0 zg hrg _) rfl (oc rfl on) (LeL.refl _) ?_
    obtain ⟨hgh, hM⟩ := gd hM
    refine sr (a := (⟨#[40]⟩ : ByteArray)) (b := zg) (v := (.str ((⟨#[40]⟩ : ByteArray) ++ zg))) rfl rfl (if_pos (od hgh)) ?_
    obtain ⟨hgi, hM⟩ := gd hM
    refine sr (a := ((⟨#[40]⟩ : ByteArray) ++ zg)) (b := (⟨#[41]⟩ : ByteArray)) (v := (.str (((⟨#[40]⟩ : ByteArray) ++ zg) ++ (⟨#[41]⟩ : ByteArray)))) rfl rfl (if_pos (od hgi)) <| sn rfl <| R.done (hKq _ _ (SW.ret (Qt ?_)))
    obtain rfl := si hM
    exact ret_of (rc rfl rn) (.str (((⟨#[40]⟩ : ByteArray) ++ zg) ++ (⟨#[41]⟩ : ByteArray))) σ_0 (Le.refl _) Fa.back ⟨rfl, rfl⟩
  · have hM := cF hb9 hM
    refine SW.skip <| SW.seqR fun Kr hKr => ld (v := (.agg (cTerm p_0))) ti25 hg s7 rfl ?_
    obtain ⟨zh, hrh, hM⟩ := bd hM
    refine cp (ih_s_l2Text p_0 zh hrh _) rfl (oc rfl on) (LeL.refl _) <| sn rfl <| R.done (hKr _ _ (SW.ret ?_))
    obtain rfl := si hM
    exact ret_of (rc rfl rn) (.str zh) σ_0 (Le.refl _) Fa.back ⟨rfl, rfl⟩
 clear eJ5
 refine SW.region <| ld (v := (.agg (cTerm p_0))) ti25 rfl s0 rfl ?_
 obtain ⟨zi, hri, hM⟩ := bd hM
 refine cp (r_s_l2Infix f p_0 zi hri _) rfl (oc rfl on) (LeL.refl _) <| mv rfl ?_
 rcases bcase zi with hba | hba
 · have hM := cT hba hM
   refine R.go zi rfl hba (a_fieldPtr ti25 rfl rfl rfl (by decide) (R.go zi rfl hba (a_loadPtr ti9 rfl s0 rfl ?_)))
   obtain ⟨zj, hrj, hM⟩ := bd hM
   refine R.go zi rfl hba (a_call (g := 116) rfl (oc rfl on) (AC.goP (r_s_l2Level f p_0.name zj hrj _) (LeL.refl _) (R.go zi rfl hba (a_move rfl (R.go zi rfl hba (a_int rfl rfl rfl (R.op rfl (a_pickT rfl hba rfl (R.done ?_)))))))))
   exact hJ5 (decide (p_1 < zj)) _ _ F3 rfl rfl s0 hM
 · have hM := cF hba hM
   refine R.not zi rfl hba <| R.not zi rfl hba <| R.not zi rfl hba <| R.not zi rfl hba <| R.not zi rfl hba <| R.op rfl (a_pickF rfl hba rfl (R.done ?_))
   exact hJ5 false _ _ F3 rfl rfl s0 hM

theorem b_s_l2Right (f : Nat) {c_s_l2Text : STerm → Option ByteArray} (ih_s_l2Text : Q_s_l2Text c_s_l2Text) {c_s_l2List : STerm → Option ByteArray} (ih_s_l2List : Q_s_l2List c_s_l2List) {c_s_l2Left : STerm → Int → Option ByteArray} (ih_s_l2Left : Q_s_l2Left c_s_l2Left) {c_s_l2Right : STerm → Int → Option ByteArray} (ih_s_l2Right : Q_s_l2Right c_s_l2Right) {c_s_l2Args : (List STerm) → Option ByteArray} (ih_s_l2Args : Q_s_l2Args c_s_l2Args) {c_s_l2Bracket : STerm → Int → Option ByteArray} (ih_s_l2Bracket : Q_s_l2Bracket c_s_l2Bracket) : Q_s_l2Right (B_s_l2Right f c_s_l2Text c_s_l2List c_s_l2Left c_s_l2Right c_s_l2Args c_s_l2Bracket) := by
 intro p_0 p_1 r hM σ_0
 have F_0 := Fr.refl σ_0 []
 unfold B_s_l2Right at hM
 refine AC.of_body Tryz.func182 rfl rfl (by rfl) (by simp [Tryz.f182]) <| SW.seqR fun K0 hK0 => R.op rfl (a_box (v := (.agg (cTerm p_0))) rfl rfl fun a0 σ3 n1 s0 hF0 => ?_)
 have lo0 := F_0.lo1 n1
 have F3 := F_0.andThen hF0 Lo.nil
 refine sn rfl <| R.done (hK0 _ _ (SW.seqR fun K8 hK8 => ld (v := (.agg (cTerm p_0))) ti25 rfl s0 rfl (mv rfl ?_)))
 obtain ⟨z1, hr1, hM⟩ := bd hM
 refine cp (ih_s_l2Bracket p_0 p_1 z1 hr1 _) rfl (oc rfl (oc rfl on)) (LeL.refl _) <| sn rfl <| R.done (hK8 _ _ (SW.seq (SW.seqK fun Ks hKs => ?_)))
 obtain ⟨J6, eJ6, hM⟩ := jn_elim hM
 have hJ6 : ∀ (vh : Bool) (env8 : Env) (σb : St), Fr σ_0 σb [] → env8.get 5 = some (.str z1) → env8.get 15 = some (.bool vh) → σb a0 = some (.cells (cTerm p_0)) → J6 vh = some r → Ks env8 σb := by
  intro vh env8 σb Fb hi hj s8 hM
  subst eJ6
  refine hKs _ _ <| SW.cond hj (fun hbb => ?_) (fun hbb => ?_)
  · have hM := cT hbb hM
    refine SW.seqR fun Kt hKt => mv hi ?_
    obtain ⟨hgj, hM⟩ := gd hM
    refine sr (a := (⟨#[40]⟩ : ByteArray)) (b := z1) (v := (.str ((⟨#[40]⟩ : ByteArray) ++ z1))) rfl rfl (if_pos (od hgj)) ?_
    obtain ⟨hgk, hM⟩ := gd hM
    refine sr (a := ((⟨#[40]⟩ : ByteArray) ++ z1)) (b := (⟨#[41]⟩ : ByteArray)) (v := (.str (((⟨#[40]⟩ : ByteArray) ++ z1) ++ (⟨#[41]⟩ : ByteArray)))) rfl rfl (if_pos (od hgk)) <| sn rfl <| R.done (hKt _ _ (SW.ret (Qt ?_)))
    obtain rfl := si hM
    exact ret_of (rc rfl rn) (.str (((⟨#[40]⟩ : ByteArray) ++ z1) ++ (⟨#[41]⟩ : ByteArray))) σ_0 (Le.refl _) Fb.back ⟨rfl, rfl⟩
  · have hM := cF hbb hM
    refine SW.skip <| SW.seqR fun Ku hKu => mv hi <| sn rfl <| R.done (hKu _ _ (SW.ret ?_))
    obtain rfl := si hM
    exact ret_of (rc rfl rn) (.str z1) σ_0 (Le.refl _) Fb.back ⟨rfl, rfl⟩
 clear eJ6
 refine SW.region <| ld (v := (.agg (cTerm p_0))) ti25 rfl s0 rfl ?_
 obtain ⟨zi, hri, hM⟩ := bd hM
 refine cp (r_s_l2Sole f p_0 zi hri _) rfl (oc rfl on) (LeL.refl _) <| mv rfl ?_
 rcases bcase zi with hba | hba
 · have hM := cT hba hM
   refine R.notf zi rfl hba <| R.notf zi rfl hba <| R.notf zi rfl hba <| R.op rfl (a_pickT rfl hba rfl (R.done ?_))
   exact hJ6 true _ _ F3 rfl rfl s0 hM
 · have hM := cF hba hM
   refine R.gof zi rfl hba (a_move rfl ?_)
   obtain ⟨zj, hrj, hM⟩ := bd hM
   refine R.gof zi rfl hba (a_call (g := 188) rfl (oc rfl on) (AC.goP (r_s_l2Plain f z1 zj hrj _) (LeL.refl _) (R.gof zi rfl hba (a_not rfl (R.op rfl (a_pickF rfl hba rfl (R.done ?_)))))))
   exact hJ6 (!zj) _ _ F3 rfl rfl s0 hM

theorem rr_s_l2Args (f : Nat) : Q_s_l2Args (M_s_l2Args f) ∧ Q_s_l2Text (M_s_l2Text f) ∧ Q_s_l2List (M_s_l2List f) ∧ Q_s_l2Left (M_s_l2Left f) ∧ Q_s_l2Bracket (M_s_l2Bracket f) ∧ Q_s_l2Right (M_s_l2Right f) := by
 induction f with
 | zero => exact ⟨(by intro p_0 tk_0 r hM; rw [M_s_l2Args] at hM; cases hM), (by intro p_0 r hM; rw [M_s_l2Text] at hM; cases hM), (by intro p_0 r hM; rw [M_s_l2List] at hM; cases hM), (by intro p_0 p_1 r hM; rw [M_s_l2Left] at hM; cases hM), (by intro p_0 p_1 r hM; rw [M_s_l2Bracket] at hM; cases hM), (by intro p_0 p_1 r hM; rw [M_s_l2Right] at hM; cases hM)⟩
 | succ f ih => exact ⟨(by intro p_0 tk_0 r hM; rw [M_s_l2Args] at hM; exact b_s_l2Args f ih.2.1 ih.2.2.1 ih.2.2.2.1 ih.2.2.2.2.2 ih.1 ih.2.2.2.2.1 p_0 tk_0 r hM), (by intro p_0 r hM; rw [M_s_l2Text] at hM; exact b_s_l2Text f ih.2.1 ih.2.2.1 ih.2.2.2.1 ih.2.2.2.2.2 ih.1 ih.2.2.2.2.1 p_0 r hM), (by intro p_0 r hM; rw [M_s_l2List] at hM; exact b_s_l2List f ih.2.1 ih.2.2.1 ih.2.2.2.1 ih.2.2.2.2.2 ih.1 ih.2.2.2.2.1 p_0 r hM), (by intro p_0 p_1 r hM; rw [M_s_l2Left] at hM; exact b_s_l2Left f ih.2.1 ih.2.2.1 ih.2.2.2.1 ih.2.2.2.2.2 ih.1 ih.2.2.2.2.1 p_0 p_1 r hM), (by intro p_0 p_1 r hM; rw [M_s_l2Bracket] at hM; exact b_s_l2Bracket f ih.2.1 ih.2.2.1 ih.2.2.2.1 ih.2.2.2.2.2 ih.1 ih.2.2.2.2.1 p_0 p_1 r hM), (by intro p_0 p_1 r hM; rw [M_s_l2Right] at hM; exact b_s_l2Right f ih.2.1 ih.2.2.1 ih.2.2.2.1 ih.2.2.2.2.2 ih.1 ih.2.2.2.2.1 p_0 p_1 r hM)⟩

theorem r_s_l2Args (f : Nat) : Q_s_l2Args (M_s_l2Args f) := (rr_s_l2Args f).1

theorem r_s_l2Text (f : Nat) : Q_s_l2Text (M_s_l2Text f) := (rr_s_l2Args f).2.1

theorem r_s_l2List (f : Nat) : Q_s_l2List (M_s_l2List f) := (rr_s_l2Args f).2.2.1

theorem r_s_l2Left (f : Nat) : Q_s_l2Left (M_s_l2Left f) := (rr_s_l2Args f).2.2.2.1

theorem r_s_l2Bracket (f : Nat) : Q_s_l2Bracket (M_s_l2Bracket f) := (rr_s_l2Args f).2.2.2.2.1

theorem r_s_l2Right (f : Nat) : Q_s_l2Right (M_s_l2Right f) := (rr_s_l2Args f).2.2.2.2.2

def L_s_l4Text_1 (f : Nat) (p_0 : SClause) (J0 : ByteArray → Option ByteArray) : Nat → ByteArray → Int → Option ByteArray
 | 0, _, _ => none
 | n + 1, v0, v1 =>
 bif decide (v1 < (p_0.body.length : Int)) then (
 jn (fun (v2 : ByteArray) => (
 bif decide (0 ≤ v1) then
 Option.bind (p_0.body[(v1 : Int).toNat]?) fun x0 =>
 Option.bind (M_s_l2Text f x0) fun z0 =>
 bif decide (v2.size + z0.size ≤ 140737488355328) then
 L_s_l4Text_1 f p_0 J0 n (v2 ++ z0) (IntKind.wrap .i64 (v1 + 1))
 else none
 else none
 )) fun J1 => (
 bif (v1 == 0) then (
 bif decide (v0.size + (⟨#[58, 45]⟩ : ByteArray).size ≤ 140737488355328) then
 J1 (v0 ++ (⟨#[58, 45]⟩ : ByteArray))
 else none
 ) else (
 bif decide (v0.size + (⟨#[44]⟩ : ByteArray).size ≤ 140737488355328) then
 J1 (v0 ++ (⟨#[44]⟩ : ByteArray))
 else none
 )
 )
 ) else (
 J0 v0
 )

def M_s_l4Text (f : Nat) (p_0 : SClause) : Option ByteArray :=
 Option.bind (M_s_l2Text f p_0.head) fun z1 =>
 jn (fun (v3 : ByteArray) => (
 bif decide (v3.size + (⟨#[46]⟩ : ByteArray).size ≤ 140737488355328) then
 some ((v3 ++ (⟨#[46]⟩ : ByteArray)))
 else none
 )) fun J0 => (
 L_s_l4Text_1 f p_0 J0 f z1 0
 )

theorem r_s_l4Text (f : Nat) (p_0 : SClause) (r : ByteArray) (hM : M_s_l4Text f p_0 = some r) (σ_0 : St) : AC Tryz.prog 164 [(.agg (cClause p_0))] σ_0 (fun v s => v = (.str r) ∧ s = σ_0) := by
 have F_0 := Fr.refl σ_0 []
 unfold M_s_l4Text at hM
 refine AC.of_body Tryz.func164 rfl rfl (by rfl) (by simp [Tryz.f164]) <| SW.seqR fun K0 hK0 => R.op rfl (a_box (v := (.agg (cClause p_0))) rfl rfl fun a0 σ0 n0 s0 hF0 => ?_)
 have lo0 := F_0.lo1 n0
 have F0 := F_0.andThen hF0 Lo.nil
 refine sn rfl <| R.done (hK0 _ _ (SW.seqR fun K1 hK1 => fp ti27 rfl rfl rfl (by decide) (ld (v := (.agg (cTerm p_0.head))) ti25 rfl s0 rfl ?_)))
 obtain ⟨z1, hr0, hM⟩ := bd hM
 refine cp (r_s_l2Text f p_0.head z1 hr0 _) rfl (oc rfl on) (LeL.refl _) <| sn rfl <| R.done (hK1 _ _ (SW.seqK fun K2 hK2 => ?_))
 obtain ⟨J0, eJ0, hM⟩ := jn_elim hM
 have hJ0 : ∀ (v3 : ByteArray) (env0 : Env) (σ1 : St), Fr σ_0 σ1 [] → env0.get 3 = some (.str v3) → σ1 a0 = some (.cells (cClause p_0)) → J0 v3 = some r → K2 env0 σ1 := by
  intro v3 env0 σ1 F1 h0 s1 hM
  subst eJ0
  refine hK2 _ _ <| SW.seqR fun K3 hK3 => mv h0 ?_
  obtain ⟨hg0, hM⟩ := gd hM
  refine sr (a := v3) (b := (⟨#[46]⟩ : ByteArray)) (v := (.str (v3 ++ (⟨#[46]⟩ : ByteArray)))) rfl rfl (if_pos (od hg0)) <| sn rfl <| R.done (hK3 _ _ (SW.ret ?_))
  obtain rfl := si hM
  exact ret_of (rc rfl rn) (.str (v3 ++ (⟨#[46]⟩ : ByteArray))) σ_0 (Le.refl _) F1.back ⟨rfl, rfl⟩
 clear eJ0
 refine SW.seqR fun K4 hK4 => sn rfl <| R.done (hK4 _ _ (SW.block (SW.loop (LW.ind (I := fun n1 env1 σ2 => ∃ (v0 : ByteArray) (v1 : Int), Fr σ_0 σ2 [] ∧ env1.get 1 = some (.ptr a0 0) ∧ env1.get 3 = some (.str v0) ∧ env1.get 4 = some (I v1) ∧ σ2 a0 = some (.cells (cClause p_0)) ∧ L_s_l4Text_1 f p_0 J0 n1 v0 v1 = some r) ?_ f _ _ ⟨z1, 0, F0, rfl, rfl, rfl, s0, hM⟩))))
 rintro n1 env1 σ2 ⟨v0, v1, F2, h1, h2, h3, s2, hM⟩
 cases n1 with
 | zero => (rw [L_s_l4Text_1] at hM; cases hM)
 | succ n1 =>
  rw [L_s_l4Text_1] at hM
  refine SW.seq <| SW.seqR fun K5 hK5 => mv h3 <| fp ti27 rfl h1 rfl (by decide) <| ld ti23 rfl s2 rfl <| R.op rfl (a_lenImm ti23 rfl rfl (n := (p_0.body.length : Int)) (by simp) (it rfl rfl rfl (R.done (hK5 _ _ (SW.cond rfl (fun hb0 => ?_) (fun hb0 => ?_))))))
  · have hM := cT hb0 hM
    refine SW.skip <| SW.seq <| SW.block <| SW.seqK fun K6 hK6 => ?_
    obtain ⟨J1, eJ1, hM⟩ := jn_elim hM
    have hJ1 : ∀ (v2 : ByteArray) (env2 : Env) (σ3 : St), Fr σ_0 σ3 [] → env2.get 1 = some (.ptr a0 0) → env2.get 3 = some (.str v2) → env2.get 4 = some (I v1) → σ3 a0 = some (.cells (cClause p_0)) → J1 v2 = some r → K6 env2 σ3 := by
     intro v2 env2 σ3 F3 h4 h5 h6 s3 hM
     subst eJ1
     refine hK6 _ _ <| SW.region <| mv h5 <| fp ti27 rfl h4 rfl (by decide) <| ld ti23 rfl s3 rfl <| mv h6 ?_
     obtain ⟨hg1, hM⟩ := gd hM
     obtain ⟨x0, hx0, hM⟩ := bd hM
     refine R.op rfl (a_idxImm (f := eTerm) (xs := p_0.body) (n := v1) (e := x0) (v := (.agg (cTerm x0))) ti23 rfl ti25 rfl rfl rfl (od hg1) hx0 (eTerm_eq x0) (li (v := (.agg (cTerm x0))) ti25 rfl rfl ?_))
     obtain ⟨z0, hr1, hM⟩ := bd hM
     refine cp (r_s_l2Text f x0 z0 hr1 _) rfl (oc rfl on) (LeL.refl _) ?_
     obtain ⟨hg2, hM⟩ := gd hM
     refine sr (a := v2) (b := z0) (v := (.str (v2 ++ z0))) rfl rfl (if_pos (od hg2)) <| sn rfl <| R.done <| SW.region <| mv h6 <| it rfl rfl rfl <| sn rfl <| R.done ?_
     exact ⟨n1, Nat.lt_succ_self _, (v2 ++ z0), (IntKind.wrap .i64 (v1 + 1)), F3, h4, rfl, rfl, s3, hM⟩
    clear eJ1
    refine SW.seqR fun K7 hK7 => mv h3 <| it rfl rfl rfl <| R.done (hK7 _ _ (SW.cond rfl (fun hb1 => ?_) (fun hb1 => ?_)))
    · have hM := cT hb1 hM
      refine SW.region <| mv h2 ?_
      obtain ⟨hg3, hM⟩ := gd hM
      refine sr (a := v0) (b := (⟨#[58, 45]⟩ : ByteArray)) (v := (.str (v0 ++ (⟨#[58, 45]⟩ : ByteArray)))) rfl rfl (if_pos (od hg3)) <| sn rfl <| R.done ?_
      exact hJ1 (v0 ++ (⟨#[58, 45]⟩ : ByteArray)) _ _ F2 h1 rfl h3 s2 hM
    · have hM := cF hb1 hM
      refine SW.region <| mv h2 ?_
      obtain ⟨hg4, hM⟩ := gd hM
      refine sr (a := v0) (b := (⟨#[44]⟩ : ByteArray)) (v := (.str (v0 ++ (⟨#[44]⟩ : ByteArray)))) rfl rfl (if_pos (od hg4)) <| sn rfl <| R.done ?_
      exact hJ1 (v0 ++ (⟨#[44]⟩ : ByteArray)) _ _ F2 h1 rfl h3 s2 hM
  · have hM := cF hb0 hM
    refine SW.exit <| Qte <| Qte <| Qbx ?_
    exact hJ0 v0 _ _ F2 h2 s2 hM

def M_s_FormatClause (f : Nat) (p_0 : SClause) : Option ByteArray :=
 Option.bind (M_s_ClauseValid f p_0) fun z0 =>
 bif (!z0) then (
 some ((⟨#[]⟩ : ByteArray))
 ) else (
 Option.bind (M_s_l4Text f p_0) fun z1 =>
 some (z1)
 )

theorem r_s_FormatClause (f : Nat) (p_0 : SClause) (r : ByteArray) (hM : M_s_FormatClause f p_0 = some r) (σ_0 : St) : AC Tryz.prog 157 [(.agg (cClause p_0))] σ_0 (fun v s => v = (.str r) ∧ s = σ_0) := by
 have F_0 := Fr.refl σ_0 []
 unfold M_s_FormatClause at hM
 refine AC.of_body Tryz.func157 rfl rfl (by rfl) (by simp [Tryz.f157]) <| SW.seqR fun K0 hK0 => R.op rfl (a_box (v := (.agg (cClause p_0))) rfl rfl fun a0 σ0 n0 s0 hF0 => ?_)
 have lo0 := F_0.lo1 n0
 have F0 := F_0.andThen hF0 Lo.nil
 refine sn rfl <| R.done (hK0 _ _ (SW.seq (SW.seqR fun K1 hK1 => ld (v := (.agg (cClause p_0))) ti27 rfl s0 rfl ?_)))
 obtain ⟨z0, hr0, hM⟩ := bd hM
 refine cp (r_s_ClauseValid f p_0 z0 hr0 _) rfl (oc rfl on) (LeL.refl _) <| no rfl <| R.done (hK1 _ _ (SW.cond rfl (fun hb0 => ?_) (fun hb0 => ?_)))
 · have hM := cT hb0 hM
   refine SW.seqR fun K2 hK2 => sn rfl <| R.done (hK2 _ _ (SW.ret (Qt ?_)))
   obtain rfl := si hM
   exact ret_of (rc rfl rn) (.str (⟨#[]⟩ : ByteArray)) σ_0 (Le.refl _) F0.back ⟨rfl, rfl⟩
 · have hM := cF hb0 hM
   refine SW.skip <| SW.seqR fun K3 hK3 => ld (v := (.agg (cClause p_0))) ti27 rfl s0 rfl ?_
   obtain ⟨z1, hr1, hM⟩ := bd hM
   refine cp (r_s_l4Text f p_0 z1 hr1 _) rfl (oc rfl on) (LeL.refl _) <| sn rfl <| R.done (hK3 _ _ (SW.ret ?_))
   obtain rfl := si hM
   exact ret_of (rc rfl rn) (.str z1) σ_0 (Le.refl _) F0.back ⟨rfl, rfl⟩

def M_s_ParseClause (f : Nat) (p_0 : ByteArray) : Option (SClause × Bool) :=
 bif decide (1000 < (p_0.size : Int)) then (
 some ((SClause.mk (STerm.mk 0 0 (⟨#[]⟩ : ByteArray) ([] : List STerm)) ([] : List STerm)), false)
 ) else (
 Option.bind (M_s_l2Read f p_0 0 30 3) fun z0 =>
 bif decide (z0.2 < 0) then (
 some ((SClause.mk (STerm.mk 0 0 (⟨#[]⟩ : ByteArray) ([] : List STerm)) ([] : List STerm)), false)
 ) else (
 jn (fun (v0 : Int) (v1 : List STerm) => (
 jn (fun (v2 : Bool) => (
 bif v2 then (
 some ((SClause.mk (STerm.mk 0 0 (⟨#[]⟩ : ByteArray) ([] : List STerm)) ([] : List STerm)), false)
 ) else (
 Option.bind (M_s_l4Copy f (SClause.mk z0.1 v1)) fun z1 =>
 some (z1, true)
 )
 )) fun J0 => (
 bif (!(v0 == (IntKind.wrap .i64 ((p_0.size : Int) - 1)))) then (
 J0 true
 ) else (
 Option.bind (M_s_l1Sign f p_0 v0 46) fun z2 =>
 bif (!z2) then (
 J0 true
 ) else (
 Option.bind (M_s_FormatClause f (SClause.mk z0.1 v1)) fun z3 =>
 J0 (!decide (z3 = p_0))
 )
 )
 )
 )) fun J1 => (
 jn (fun (v3 : Bool) => (
 bif v3 then (
 Option.bind (M_s_l4Goals f p_0 (IntKind.wrap .i64 (z0.2 + 2))) fun z4 =>
 J1 z4.2 z4.1
 ) else (
 J1 z0.2 ([] : List STerm)
 )
 )) fun J2 => (
 Option.bind (M_s_l1Sign f p_0 z0.2 58) fun z5 =>
 bif z5 then (
 Option.bind (M_s_l1Sign f p_0 (IntKind.wrap .i64 (z0.2 + 1)) 45) fun z6 =>
 J2 z6
 ) else (
 J2 false
 )
 )
 )
 )
 )

theorem r_s_ParseClause (f : Nat) (p_0 : ByteArray) (r : SClause × Bool) (hM : M_s_ParseClause f p_0 = some r) (σ_0 : St) : AC Tryz.prog 137 [(.str p_0)] σ_0 (fun v s => v = (.tup [(.agg (cClause r.1)), (.bool r.2)]) ∧ s = σ_0) := by
 have F_0 := Fr.refl σ_0 []
 unfold M_s_ParseClause at hM
 refine AC.of_body Tryz.func137 rfl rfl (by rfl) (by simp [Tryz.f137]) <| SW.seqR fun K0 hK0 => alClause fun a0 σ0 n0 s0 hF0 => ?_
 have lo0 := F_0.lo1 n0
 have F0 := F_0.andThen hF0 Lo.nil
 refine sn rfl <| R.done (hK0 _ _ (SW.seq (SW.seqR fun K1 hK1 => mv rfl (R.op rfl (a_lenStr ti9 rfl rfl (it rfl rfl rfl (R.done (hK1 _ _ (SW.cond rfl (fun hb0 => ?_) (fun hb0 => ?_))))))))))
 · have hM := cT hb0 hM
   refine SW.seqR fun K2 hK2 => R.opLe rfl (a_build (cs := [(I 0), (I 0), (.str (⟨#[]⟩ : ByteArray)), (.imm 0 [] .full), (.imm 0 [] .full)]) ti27 rfl rfl pn rfl ⟨(.agg [(I 0), (I 0), (.str (⟨#[]⟩ : ByteArray)), (LTerm ([] : List STerm) .full), (LTerm ([] : List STerm) .full)]), Le.agg (LeL.cons (Le.refl _) (LeL.cons (Le.refl _) (LeL.cons (Le.refl _) (LeL.cons (Le.empty' _ _ _ rfl) (LeL.cons (Le.empty' _ _ _ rfl) LeL.nil))))), (R.op rfl (a_store (cs' := [(I 0), (I 0), (.str (⟨#[]⟩ : ByteArray)), (LTerm ([] : List STerm) .full), (LTerm ([] : List STerm) .full)]) ti27 rfl rfl s0 rfl (nb rfl) rfl rfl fun σ1 s1 hF1 => ?_))⟩)
   have F1 := F0.andThen hF1 lo0
   refine sn rfl <| R.done (hK2 _ _ (SW.ret (Qt ?_)))
   obtain rfl := si hM
   exact ret_of (rcc ti27 rfl s1 rfl (rc rfl rn)) (.tup [(.agg (cClause (SClause.mk (STerm.mk 0 0 (⟨#[]⟩ : ByteArray) ([] : List STerm)) ([] : List STerm)))), (.bool false)]) σ_0 (Le.tup (LeL.cons (Le.agg (LeL.cons (Le.refl _) (LeL.cons (Le.refl _) (LeL.cons (Le.refl _) (LeL.cons (Le.tok _ _ _) (LeL.cons (Le.tok _ _ _) LeL.nil)))))) (LeL.cons (Le.refl _) LeL.nil))) F1.back ⟨rfl, rfl⟩
 · have hM := cF hb0 hM
   refine SW.skip <| SW.seqR fun K3 hK3 => mv rfl ?_
   obtain ⟨z0, hr0, hM⟩ := bd hM
   refine cp (r_s_l2Read f p_0 0 30 3 z0 hr0 _) rfl (oc rfl (oc rfl (oc rfl (oc rfl on)))) (LeL.refl _) <| mv rfl <| ex rfl rfl <| ex rfl rfl <| alTerm fun a1 σ2 n1 s2 hF2 => ?_
   have ne0 := ne_new n1 s0
   have lo2 := F0.lo1 n1
   have s3 := hF2.keep s0 (by simp)
   have F2 := F0.andThen hF2 Lo.nil
   refine R.op rfl (a_store (cs' := (cTerm z0.1)) ti25 rfl rfl s2 rfl (nb rfl) rfl rfl fun σ3 s4 hF3 => ?_)
   have s5 := hF3.keep s3 (m1 ne0)
   have F3 := F2.andThen hF3 lo2
   refine sn rfl <| R.done (hK3 _ _ (SW.seq (SW.seqR fun K4 hK4 => mv rfl (it rfl rfl rfl (R.done (hK4 _ _ (SW.cond rfl (fun hb1 => ?_) (fun hb1 => ?_))))))))
   · have hM := cT hb1 hM
     refine SW.seqR fun K5 hK5 => R.opLe rfl (a_build (cs := [(I 0), (I 0), (.str (⟨#[]⟩ : ByteArray)), (.imm 0 [] .full), (.imm 0 [] .full)]) ti27 rfl rfl pn rfl ⟨(.agg [(I 0), (I 0), (.str (⟨#[]⟩ : ByteArray)), (LTerm ([] : List STerm) .full), (LTerm ([] : List STerm) .full)]), Le.agg (LeL.cons (Le.refl _) (LeL.cons (Le.refl _) (LeL.cons (Le.refl _) (LeL.cons (Le.empty' _ _ _ rfl) (LeL.cons (Le.empty' _ _ _ rfl) LeL.nil))))), (R.op rfl (a_store (cs' := [(I 0), (I 0), (.str (⟨#[]⟩ : ByteArray)), (LTerm ([] : List STerm) .full), (LTerm ([] : List STerm) .full)]) ti27 rfl rfl s5 rfl (nb rfl) rfl rfl fun σ4 s6 hF4 => ?_))⟩)
     have F4 := F3.andThen hF4 lo0
     refine sn rfl <| R.done (hK5 _ _ (SW.ret (Qt ?_)))
     obtain rfl := si hM
     exact ret_of (rcc ti27 rfl s6 rfl (rc rfl rn)) (.tup [(.agg (cClause (SClause.mk (STerm.mk 0 0 (⟨#[]⟩ : ByteArray) ([] : List STerm)) ([] : List STerm)))), (.bool false)]) σ_0 (Le.tup (LeL.cons (Le.agg (LeL.cons (Le.refl _) (LeL.cons (Le.refl _) (LeL.cons (Le.refl _) (LeL.cons (Le.tok _ _ _) (LeL.cons (Le.tok _ _ _) LeL.nil)))))) (LeL.cons (Le.refl _) LeL.nil))) F4.back ⟨rfl, rfl⟩
   · have hM := cF hb1 hM
     refine SW.skip <| SW.seqR fun K6 hK6 => ld (v := (.agg (cTerm z0.1))) ti25 rfl s4 rfl <| R.opLe rfl (a_build (cs := [(I z0.1.kind), (I z0.1.n), (.str z0.1.name), (LTerm z0.1.kids .no), (.imm 0 [] .full)]) ti27 rfl rfl (pc rfl pn) rfl ⟨(.agg [(I z0.1.kind), (I z0.1.n), (.str z0.1.name), (LTerm z0.1.kids .no), (LTerm ([] : List STerm) .full)]), Le.agg (LeL.cons (Le.refl _) (LeL.cons (Le.refl _) (LeL.cons (Le.refl _) (LeL.cons (Le.refl _) (LeL.cons (Le.empty' _ _ _ rfl) LeL.nil))))), (alClause fun a2 σ5 n2 s7 hF5 => ?_)⟩)
     have ne1 := ne_new n2 s5
     have ne2 := ne_new n2 s4
     have lo3 := F3.lo1 n2
     have s8 := hF5.keep s5 (by simp)
     have s9 := hF5.keep s4 (by simp)
     have F5 := F3.andThen hF5 Lo.nil
     refine R.op rfl (a_store (cs' := [(I z0.1.kind), (I z0.1.n), (.str z0.1.name), (LTerm z0.1.kids .no), (LTerm ([] : List STerm) .full)]) ti27 rfl rfl s7 rfl (nb rfl) rfl rfl fun σ6 sa hF6 => ?_)
     have sb := hF6.keep s8 (m1 ne1)
     have sc := hF6.keep s9 (m1 ne2)
     have F6 := F5.andThen hF6 lo3
     refine R.done (hK6 _ _ (SW.seqK fun K7 hK7 => ?_))
     obtain ⟨J1, eJ0, hM⟩ := jn_elim hM
     have hJ0 : ∀ (v0 : Int) (v1 : List STerm) (tk0 : Tk) (env0 : Env) (σ7 : St), Fr σ_0 σ7 [] → env0.get 0 = some (.str p_0) → env0.get 2 = some (.ptr a0 0) → env0.get 5 = some (I v0) → env0.get 6 = some (.ptr a2 0) → σ7 a0 = some (.cells [(I 0), (I 0), (.str (⟨#[]⟩ : ByteArray)), (LTerm ([] : List STerm) .full), (LTerm ([] : List STerm) .full)]) → σ7 a2 = some (.cells [(I z0.1.kind), (I z0.1.n), (.str z0.1.name), (LTerm z0.1.kids .no), (LTerm v1 tk0)]) → J1 v0 v1 = some r → K7 env0 σ7 := by
      intro v0 v1 tk0 env0 σ7 F7 h0 h1 h2 h3 sd se hM
      subst eJ0
      refine hK7 _ _ <| SW.seq <| SW.seqK fun K8 hK8 => ?_
      obtain ⟨J0, eJ1, hM⟩ := jn_elim hM
      have hJ1 : ∀ (v2 : Bool) (env1 : Env) (σ8 : St), Fr σ_0 σ8 [] → env1.get 2 = some (.ptr a0 0) → env1.get 6 = some (.ptr a2 0) → env1.get 54 = some (.bool v2) → σ8 a0 = some (.cells [(I 0), (I 0), (.str (⟨#[]⟩ : ByteArray)), (LTerm ([] : List STerm) .full), (LTerm ([] : List STerm) .full)]) → σ8 a2 = some (.cells [(I z0.1.kind), (I z0.1.n), (.str z0.1.name), (LTerm z0.1.kids .no), (LTerm v1 tk0)]) → J0 v2 = some r → K8 env1 σ8 := by
       intro v2 env1 σ8 F8 h4 h5 h6 sf sg hM
       subst eJ1
       refine hK8 _ _ <| SW.cond h6 (fun hb2 => ?_) (fun hb2 => ?_)
       · have hM := cT hb2 hM
         refine SW.seqR fun K9 hK9 => R.opLe rfl (a_build (cs := [(I 0), (I 0), (.str (⟨#[]⟩ : ByteArray)), (.imm 0 [] .full), (.imm 0 [] .full)]) ti27 rfl rfl pn rfl ⟨(.agg [(I 0), (I 0), (.str (⟨#[]⟩ : ByteArray)), (LTerm ([] : List STerm) .full), (LTerm ([] : List STerm) .full)]), Le.agg (LeL.cons (Le.refl _) (LeL.cons (Le.refl _) (LeL.cons (Le.refl _) (LeL.cons (Le.empty' _ _ _ rfl) (LeL.cons (Le.empty' _ _ _ rfl) LeL.nil))))), (R.op rfl (a_store (cs' := [(I 0), (I 0), (.str (⟨#[]⟩ : ByteArray)), (LTerm ([] : List STerm) .full), (LTerm ([] : List STerm) .full)]) ti27 h4 rfl sf rfl (nb rfl) rfl rfl fun σ9 sh hF7 => ?_))⟩)
         have F9 := F8.andThen hF7 lo0
         refine sn rfl <| R.done (hK9 _ _ (SW.ret (Qt ?_)))
         obtain rfl := si hM
         exact ret_of (rcc ti27 h4 sh rfl (rc rfl rn)) (.tup [(.agg (cClause (SClause.mk (STerm.mk 0 0 (⟨#[]⟩ : ByteArray) ([] : List STerm)) ([] : List STerm)))), (.bool false)]) σ_0 (Le.tup (LeL.cons (Le.agg (LeL.cons (Le.refl _) (LeL.cons (Le.refl _) (LeL.cons (Le.refl _) (LeL.cons (Le.tok _ _ _) (LeL.cons (Le.tok _ _ _) LeL.nil)))))) (LeL.cons (Le.refl _) LeL.nil))) F9.back ⟨rfl, rfl⟩
       · have hM := cF hb2 hM
         refine SW.skip <| SW.seqR fun Ka hKa => ld (v := (.agg [(I z0.1.kind), (I z0.1.n), (.str z0.1.name), (LTerm z0.1.kids .no), (LTerm v1 tk0)])) ti27 h5 sg rfl ?_
         obtain ⟨z1, hr1, hM⟩ := bd hM
         refine cl rfl (oc rfl on) (AC.go (r_s_l4Copy f (SClause.mk z0.1 v1) z1 hr1 _) (LeL.cons (Le.agg (LeL.cons (Le.refl _) (LeL.cons (Le.refl _) (LeL.cons (Le.refl _) (LeL.cons (Le.refl _) (LeL.cons (Le.tok _ _ _) LeL.nil)))))) LeL.nil) (StLe.refl _) fun v_ σa hp_ => ?_)
         obtain ⟨tk1, tk2, rfl, t0, nn0, t1, nn1, dj0, hF8⟩ := hp_
         have lo4 := Lo.call F8 Lo.nil nn0
         have lo5 := Lo.call F8 Lo.nil nn1
         have sj := hF8.keep sf (by simp)
         have sk := hF8.keep sg (by simp)
         have Fa := F8.andThen hF8 Lo.nil
         refine R.op rfl (a_store (cs' := [(I z1.head.kind), (I z1.head.n), (.str z1.head.name), (LTerm z1.head.kids tk1), (LTerm z1.body tk2)]) ti27 h4 rfl sj rfl (nb rfl) rfl rfl fun σb sl hF9 => ?_)
         have sm := hF9.keep sk (m1 (Ne.symm ne1))
         have t2 := t0.keep hF9 (not1 (tok_cells t0 sj))
         have t3 := t1.keep hF9 (not1 (tok_cells t1 sj))
         have Fb := Fa.andThen hF9 lo0
         refine sn rfl <| R.done (hKa _ _ (SW.ret ?_))
         obtain rfl := si hM
         exact ret_of (rcc ti27 h4 sl rfl (rc rfl rn)) (.tup [(.agg (cClause z1)), (.bool true)]) σ_0 (Le.tup (LeL.cons (Le.agg (LeL.cons (Le.refl _) (LeL.cons (Le.refl _) (LeL.cons (Le.refl _) (LeL.cons (Le.tok _ _ _) (LeL.cons (Le.tok _ _ _) LeL.nil)))))) (LeL.cons (Le.refl _) LeL.nil))) Fb.back ⟨rfl, rfl⟩
      clear eJ1
      refine SW.region <| mv h2 <| mv h0 <| R.op rfl (a_lenStr ti9 rfl rfl (it rfl rfl rfl (it rfl rfl rfl (mv rfl ?_))))
      rcases bcase (!(v0 == (IntKind.wrap .i64 ((p_0.size : Int) - 1)))) with hb3 | hb3
      · have hM := cT hb3 hM
        refine R.notf (!(v0 == (IntKind.wrap .i64 ((p_0.size : Int) - 1)))) rfl hb3 <| R.notf (!(v0 == (IntKind.wrap .i64 ((p_0.size : Int) - 1)))) rfl hb3 <| R.notf (!(v0 == (IntKind.wrap .i64 ((p_0.size : Int) - 1)))) rfl hb3 <| R.notf (!(v0 == (IntKind.wrap .i64 ((p_0.size : Int) - 1)))) rfl hb3 <| R.op rfl (a_pickT rfl hb3 rfl (mv rfl (R.notf true rfl rfl (R.notf true rfl rfl (R.notf true rfl rfl (R.notf true rfl rfl (R.op rfl (a_pickT rfl rfl rfl (R.done ?_)))))))))
        exact hJ1 true _ _ F7 h1 h3 rfl sd se hM
      · have hM := cF hb3 hM
        refine R.gof (!(v0 == (IntKind.wrap .i64 ((p_0.size : Int) - 1)))) rfl hb3 (a_move h0 (R.gof (!(v0 == (IntKind.wrap .i64 ((p_0.size : Int) - 1)))) rfl hb3 (a_move h2 ?_)))
        obtain ⟨z2, hr2, hM⟩ := bd hM
        refine R.gof (!(v0 == (IntKind.wrap .i64 ((p_0.size : Int) - 1)))) rfl hb3 (a_call (g := 155) rfl (oc rfl (oc rfl (oc rfl on))) (AC.goP (r_s_l1Sign f p_0 v0 46 z2 hr2 _) (LeL.refl _) (R.gof (!(v0 == (IntKind.wrap .i64 ((p_0.size : Int) - 1)))) rfl hb3 (a_not rfl (R.op rfl (a_pickF rfl hb3 rfl (mv rfl ?_)))))))
        rcases bcase (!z2) with hb4 | hb4
        · have hM := cT hb4 hM
          refine R.notf (!z2) rfl hb4 <| R.notf (!z2) rfl hb4 <| R.notf (!z2) rfl hb4 <| R.notf (!z2) rfl hb4 <| R.op rfl (a_pickT rfl hb4 rfl (R.done ?_))
          exact hJ1 true _ _ F7 h1 h3 rfl sd se hM
        · have hM := cF hb4 hM
          refine R.gof (!z2) rfl hb4 (a_loadPtr (v := (.agg [(I z0.1.kind), (I z0.1.n), (.str z0.1.name), (LTerm z0.1.kids .no), (LTerm v1 tk0)])) ti27 h3 se rfl ?_)
          obtain ⟨z3, hr3, hM⟩ := bd hM
          refine R.gof (!z2) rfl hb4 (a_call (g := 157) rfl (oc rfl on) (AC.goP (r_s_FormatClause f (SClause.mk z0.1 v1) z3 hr3 _) (LeL.cons (Le.agg (LeL.cons (Le.refl _) (LeL.cons (Le.refl _) (LeL.cons (Le.refl _) (LeL.cons (Le.refl _) (LeL.cons (Le.tok _ _ _) LeL.nil)))))) LeL.nil) (R.gof (!z2) rfl hb4 (a_move h0 (R.gof (!z2) rfl hb4 (a_str rfl rfl rfl (R.op rfl (a_pickF rfl hb4 rfl (R.done ?_)))))))))
          exact hJ1 (!decide (z3 = p_0)) _ _ F7 h1 h3 rfl sd se hM
     clear eJ0
     refine SW.seqK fun Kb hKb => ?_
     obtain ⟨J2, eJ2, hM⟩ := jn_elim hM
     have hJ2 : ∀ (v3 : Bool) (env2 : Env) (σc : St), Fr σ_0 σc [] → env2.get 0 = some (.str p_0) → env2.get 2 = some (.ptr a0 0) → env2.get 5 = some (I z0.2) → env2.get 6 = some (.ptr a2 0) → env2.get 29 = some (.bool v3) → σc a0 = some (.cells [(I 0), (I 0), (.str (⟨#[]⟩ : ByteArray)), (LTerm ([] : List STerm) .full), (LTerm ([] : List STerm) .full)]) → σc a2 = some (.cells [(I z0.1.kind), (I z0.1.n), (.str z0.1.name), (LTerm z0.1.kids .no), (LTerm ([] : List STerm) .full)]) → J2 v3 = some r → Kb env2 σc := by
      intro v3 env2 σc Fc h7 h8 h9 ha hb so sp hM
      subst eJ2
      refine hKb _ _ <| SW.cond hb (fun hb5 => ?_) (fun hb5 => ?_)
      · have hM := cT hb5 hM
        refine SW.region <| mv h7 <| mv h9 <| it rfl rfl rfl ?_
        obtain ⟨z4, hr4, hM⟩ := bd hM
        refine cp (r_s_l4Goals f p_0 (IntKind.wrap .i64 (z0.2 + 2)) z4 hr4 _) rfl (oc rfl (oc rfl on)) (LeL.refl _) <| mv rfl <| ex rfl rfl <| ex rfl rfl <| fp ti27 rfl ha rfl (by decide) <| R.op rfl (a_store (cs' := [(I z0.1.kind), (I z0.1.n), (.str z0.1.name), (LTerm z0.1.kids .no), (LTerm z4.1 .no)]) ti23 rfl rfl sp rfl (nb rfl) rfl rfl fun σd sq hFa => ?_)
        have sr := hFa.keep so (m1 ne1)
        have Fd := Fc.andThen hFa lo3
        refine sn rfl <| R.done ?_
        exact hJ0 z4.2 z4.1 .no _ _ Fd h7 h8 rfl ha sr sq hM
      · have hM := cF hb5 hM
        refine SW.skip ?_
        exact hJ0 z0.2 ([] : List STerm) .full _ _ Fc h7 h8 h9 ha so sp hM
     clear eJ2
     refine SW.region <| mv rfl <| mv rfl ?_
     obtain ⟨z5, hr5, hM⟩ := bd hM
     refine cp (r_s_l1Sign f p_0 z0.2 58 z5 hr5 _) rfl (oc rfl (oc rfl (oc rfl on))) (LeL.refl _) <| mv rfl ?_
     rcases bcase z5 with hb6 | hb6
     · have hM := cT hb6 hM
       refine R.go z5 rfl hb6 (a_move rfl (R.go z5 rfl hb6 (a_move rfl (R.go z5 rfl hb6 (a_int rfl rfl rfl ?_)))))
       obtain ⟨z6, hr6, hM⟩ := bd hM
       refine R.go z5 rfl hb6 (a_call (g := 155) rfl (oc rfl (oc rfl (oc rfl on))) (AC.goP (r_s_l1Sign f p_0 (IntKind.wrap .i64 (z0.2 + 1)) 45 z6 hr6 _) (LeL.refl _) (R.op rfl (a_pickT rfl hb6 rfl (R.done ?_)))))
       exact hJ2 z6 _ _ F6 rfl rfl rfl rfl rfl sb sa hM
     · have hM := cF hb6 hM
       refine R.not z5 rfl hb6 <| R.not z5 rfl hb6 <| R.not z5 rfl hb6 <| R.not z5 rfl hb6 <| R.op rfl (a_pickF rfl hb6 rfl (R.done ?_))
       exact hJ2 false _ _ F6 rfl rfl rfl rfl rfl sb sa hM

def L_s_ParseProgram_1 (f : Nat) (z0 : (List ByteArray)) (J0 : List SClause → Option ((List SClause) × Bool)) : Nat → List SClause → Int → Option ((List SClause) × Bool)
 | 0, _, _ => none
 | n + 1, v0, v1 =>
 bif decide ((IntKind.wrap .i64 (v1 + 1)) < (z0.length : Int)) then (
 bif decide (0 ≤ v1) then
 Option.bind (z0[(v1 : Int).toNat]?) fun x0 =>
 Option.bind (M_s_ParseClause f x0) fun z1 =>
 bif (!z1.2) then (
 some (([] : List SClause), false)
 ) else (
 bif decide (v0.length + ([z1.1]).length ≤ 4294967296) then
 L_s_ParseProgram_1 f z0 J0 n (v0 ++ ([z1.1])) (IntKind.wrap .i64 (v1 + 1))
 else none
 )
 else none
 ) else (
 J0 v0
 )

def M_s_ParseProgram (f : Nat) (p_0 : ByteArray) : Option ((List SClause) × Bool) :=
 Option.bind (M_s_l18Cut f p_0 10) fun z0 =>
 jn (fun (v2 : Bool) => (
 bif v2 then (
 some (([] : List SClause), false)
 ) else (
 jn (fun (v3 : List SClause) => (
 some (v3, true)
 )) fun J0 => (
 L_s_ParseProgram_1 f z0 J0 f ([] : List SClause) 0
 )
 )
 )) fun J1 => (
 bif decide (21 < (z0.length : Int)) then (
 J1 true
 ) else (
 bif decide (0 ≤ (IntKind.wrap .i64 ((z0.length : Int) - 1))) then
 Option.bind (z0[((IntKind.wrap .i64 ((z0.length : Int) - 1)) : Int).toNat]?) fun x1 =>
 J1 (!decide (x1 = (⟨#[]⟩ : ByteArray)))
 else none
 )
 )

theorem r_s_ParseProgram (f : Nat) (p_0 : ByteArray) (r : (List SClause) × Bool) (hM : M_s_ParseProgram f p_0 = some r) (σ_0 : St) : AC Tryz.prog 99 [(.str p_0)] σ_0 (fun v s => v = (.tup [(LClause r.1 .no), (.bool r.2)]) ∧ s = σ_0) := by
 have F_0 := Fr.refl σ_0 []
 unfold M_s_ParseProgram at hM
 refine AC.of_body Tryz.func99 rfl rfl (by rfl) (by simp [Tryz.f99]) <| SW.seqR fun K0 hK0 => R.opLe rfl (a_assign (v := (.imm 0 [] .full)) rfl ⟨(LClause ([] : List SClause) .full), Le.empty' _ _ _ rfl, (sn rfl (R.done (hK0 _ _ (SW.seqR fun K1 hK1 => R.op rfl (a_buildSlice (v := (LClause ([] : List SClause) .full)) (bsv_of ti36 rfl ti27 pn rfl ⟨rfl, by decide, by decide, rfl⟩) (sn rfl (R.done (hK1 _ _ (SW.seqR fun K2 hK2 => mv rfl ?_)))))))))⟩)
 obtain ⟨z0, hr0, hM⟩ := bd hM
 refine cp (r_s_l18Cut f p_0 10 z0 hr0 _) rfl (oc rfl (oc rfl on)) (LeL.refl _) <| sn rfl <| R.done (hK2 _ _ (SW.seq (SW.seqK fun K3 hK3 => ?_)))
 obtain ⟨J1, eJ0, hM⟩ := jn_elim hM
 have hJ0 : ∀ (v2 : Bool) (env0 : Env) (σ0 : St), Fr σ_0 σ0 [] → env0.get 4 = some (LClause ([] : List SClause) .full) → env0.get 5 = some (LS z0 .no) → env0.get 23 = some (.bool v2) → J1 v2 = some r → K3 env0 σ0 := by
  intro v2 env0 σ0 F0 h0 h1 h2 hM
  subst eJ0
  refine hK3 _ _ <| SW.cond h2 (fun hb0 => ?_) (fun hb0 => ?_)
  · have hM := cT hb0 hM
    refine SW.seqR fun K4 hK4 => mv h0 <| sn rfl <| sn rfl <| R.done (hK4 _ _ (SW.ret (Qt ?_)))
    obtain rfl := si hM
    exact ret_of (rc rfl (rc rfl rn)) (.tup [(LClause ([] : List SClause) .no), (.bool false)]) σ_0 (Le.tup (LeL.cons (Le.tok _ _ _) (LeL.cons (Le.refl _) LeL.nil))) F0.back ⟨rfl, rfl⟩
  · have hM := cF hb0 hM
    refine SW.skip <| SW.seqK fun K5 hK5 => ?_
    obtain ⟨J0, eJ1, hM⟩ := jn_elim hM
    have hJ1 : ∀ (v3 : List SClause) (tk0 : Tk) (env1 : Env) (σ1 : St), Fr σ_0 σ1 [] → env1.get 4 = some (LClause v3 tk0) → TokOk σ1 tk0 v3.length 5 → Lo σ_0 [] (tkNames tk0) → J0 v3 = some r → K5 env1 σ1 := by
     intro v3 tk0 env1 σ1 F1 h3 t0 lo0 hM
     subst eJ1
     refine hK5 _ _ <| SW.seqR fun K6 hK6 => mv h3 <| sn rfl <| sn rfl <| R.done (hK6 _ _ (SW.ret ?_))
     obtain rfl := si hM
     exact ret_of (rc rfl (rc rfl rn)) (.tup [(LClause v3 .no), (.bool true)]) σ_0 (Le.tup (LeL.cons (Le.tok _ _ _) (LeL.cons (Le.refl _) LeL.nil))) F1.back ⟨rfl, rfl⟩
    clear eJ1
    refine SW.seqR fun K7 hK7 => sn rfl <| R.done (hK7 _ _ (SW.block (SW.loop (LW.ind (I := fun n0 env2 σ2 => ∃ (v0 : List SClause) (v1 : Int) (tk1 : Tk), Fr σ_0 σ2 [] ∧ env2.get 4 = some (LClause v0 tk1) ∧ env2.get 5 = some (LS z0 .no) ∧ env2.get 6 = some (I v1) ∧ TokOk σ2 tk1 v0.length 5 ∧ Lo σ_0 [] (tkNames tk1) ∧ L_s_ParseProgram_1 f z0 J0 n0 v0 v1 = some r) ?_ f _ _ ⟨([] : List SClause), 0, .full, F0, h0, h1, rfl, trivial, Lo.full, hM⟩))))
    rintro n0 env2 σ2 ⟨v0, v1, tk1, F2, h4, h5, h6, t1, lo2, hM⟩
    cases n0 with
    | zero => (rw [L_s_ParseProgram_1] at hM; cases hM)
    | succ n0 =>
     rw [L_s_ParseProgram_1] at hM
     refine SW.seq <| SW.seqR fun K8 hK8 => mv h6 <| it rfl rfl rfl <| mv h5 <| R.op rfl (a_lenImm ti91 rfl rfl (n := (z0.length : Int)) (by simp) (it rfl rfl rfl (R.done (hK8 _ _ (SW.cond rfl (fun hb1 => ?_) (fun hb1 => ?_))))))
     · have hM := cT hb1 hM
       refine SW.skip <| SW.seq <| SW.block <| SW.seqR fun K9 hK9 => mv h5 <| mv h6 ?_
       obtain ⟨hg0, hM⟩ := gd hM
       obtain ⟨x0, hx0, hM⟩ := bd hM
       refine R.op rfl (a_idxImm (f := AV.str) (xs := z0) (n := v1) (e := x0) (v := (.str x0)) ti91 rfl ti9 rfl rfl rfl (od hg0) hx0 rfl (li ti9 rfl rfl ?_))
       obtain ⟨z1, hr1, hM⟩ := bd hM
       refine cp (r_s_ParseClause f x0 z1 hr1 _) rfl (oc rfl on) (LeL.refl _) <| mv rfl <| ex rfl rfl <| ex rfl rfl <| alClause fun a0 σ3 n1 s0 hF0 => ?_
       have lo3 := F2.lo1 n1
       have t2 := t1.keep hF0 (by simp)
       have F3 := F2.andThen hF0 Lo.nil
       refine R.op rfl (a_store (cs' := (cClause z1.1)) ti27 rfl rfl s0 rfl (nb rfl) rfl rfl fun σ4 s1 hF1 => ?_)
       have t3 := t2.keep hF1 (not1 (tok_cells t2 s0))
       have F4 := F3.andThen hF1 lo3
       refine sn rfl <| R.done (hK9 _ _ (SW.seq (SW.seqR fun Ka hKa => mv rfl (no rfl (R.done (hKa _ _ (SW.cond rfl (fun hb2 => ?_) (fun hb2 => ?_))))))))
       · have hM := cT hb2 hM
         refine SW.seqR fun Kb hKb => R.op rfl (a_buildSlice (v := (LClause ([] : List SClause) .full)) (bsv_of ti36 rfl ti27 pn rfl ⟨rfl, by decide, by decide, rfl⟩) (sn rfl (sn rfl (R.done (hKb _ _ (SW.ret (Qt (Qb (Qt (Qt (Qb (Qt ?_))))))))))))
         obtain rfl := si hM
         exact ret_of (rc rfl (rc rfl rn)) (.tup [(LClause ([] : List SClause) .no), (.bool false)]) σ_0 (Le.tup (LeL.cons (Le.tok _ _ _) (LeL.cons (Le.refl _) LeL.nil))) F4.back ⟨rfl, rfl⟩
       · have hM := cF hb2 hM
         refine SW.skip <| SW.region <| mv h4 <| ld (v := (.agg (cClause z1.1))) ti27 rfl s1 rfl <| R.op rfl (a_buildSlice (v := (LClause ([z1.1]) .full)) (bsv_of ti36 rfl ti27 (pc rfl pn) rfl ⟨rfl, by decide, by decide, rfl⟩) ?_)
         obtain ⟨hg1, hM⟩ := gd hM
         refine R.op rfl (a_append (es := List.map eClause v0) (ds := List.map eClause ([z1.1])) (rs := List.map eClause (v0 ++ ([z1.1]))) ti36 rfl ti36 rfl ti27 rfl rfl (.inl rfl) rfl rfl (by decide) (by decide) (by simpa using od hg1) (.inl rfl) (t3.len (by first | rfl | simp)) (by simp) fun tk2 σ5 t4 hF2 nn0 => ?_)
         have lo4 := F4.loTk lo2 nn0
         have s2 := hF2.keep s1 (tok_cells t3 s1)
         have F5 := F4.andThen hF2 lo2
         refine sn rfl <| R.done <| SW.region <| mv h6 <| it rfl rfl rfl <| sn rfl <| R.done ?_
         exact ⟨n0, Nat.lt_succ_self _, (v0 ++ ([z1.1])), (IntKind.wrap .i64 (v1 + 1)), tk2, F5, rfl, h5, rfl, (t4.len (by first | rfl | simp)), lo4, hM⟩
     · have hM := cF hb1 hM
       refine SW.exit <| Qte <| Qte <| Qbx ?_
       exact hJ1 v0 tk1 _ _ F2 h4 (t1.len (by first | rfl | simp)) lo2 hM
 clear eJ0
 refine SW.region <| mv rfl <| R.op rfl (a_lenImm ti91 rfl rfl (n := (z0.length : Int)) (by simp) (it rfl rfl rfl (mv rfl ?_)))
 rcases bcase (decide (21 < (z0.length : Int))) with hb3 | hb3
 · have hM := cT hb3 hM
   refine R.notf (decide (21 < (z0.length : Int))) rfl hb3 <| R.notf (decide (21 < (z0.length : Int))) rfl hb3 <| R.notf (decide (21 < (z0.length : Int))) rfl hb3 <| R.notf (decide (21 < (z0.length : Int))) rfl hb3 <| R.notf (decide (21 < (z0.length : Int))) rfl hb3 <| R.notf (decide (21 < (z0.length : Int))) rfl hb3 <| R.notf (decide (21 < (z0.length : Int))) rfl hb3 <| R.op rfl (a_pickT rfl hb3 rfl (R.done ?_))
   exact hJ0 true _ _ F_0 rfl rfl rfl hM
 · have hM := cF hb3 hM
   refine R.gof (decide (21 < (z0.length : Int))) rfl hb3 (a_move rfl (R.gof (decide (21 < (z0.length : Int))) rfl hb3 (a_move rfl (R.gof (decide (21 < (z0.length : Int))) rfl hb3 (a_lenImm ti91 rfl rfl (n := (z0.length : Int)) (by simp) (R.gof (decide (21 < (z0.length : Int))) rfl hb3 (a_int rfl rfl rfl ?_)))))))
   obtain ⟨hg2, hM⟩ := gd hM
   obtain ⟨x1, hx1, hM⟩ := bd hM
   refine R.gof (decide (21 < (z0.length : Int))) rfl hb3 (a_idxImm (f := AV.str) (xs := z0) (n := (IntKind.wrap .i64 ((z0.length : Int) - 1))) (e := x1) (v := (.str x1)) ti91 rfl ti9 rfl rfl rfl (od hg2) hx1 rfl (R.gof (decide (21 < (z0.length : Int))) rfl hb3 (a_loadIptr ti9 rfl rfl (R.gof (decide (21 < (z0.length : Int))) rfl hb3 (a_str rfl rfl rfl (R.op rfl (a_pickF rfl hb3 rfl (R.done ?_))))))))
   exact hJ0 (!decide (x1 = (⟨#[]⟩ : ByteArray))) _ _ F_0 rfl rfl rfl hM

def L_s_l3Shift_1 (c_s_l3Shift : STerm → Int → Option STerm) (p_0 : STerm) (p_1 : Int) (J0 : List STerm → Option STerm) : Nat → Int → List STerm → Option STerm
 | 0, _, _ => none
 | n + 1, v0, v1 =>
 bif decide (v0 < (p_0.kids.length : Int)) then (
 bif decide (0 ≤ v0) then
 Option.bind (p_0.kids[(v0 : Int).toNat]?) fun x0 =>
 Option.bind (c_s_l3Shift x0 p_1) fun z0 =>
 bif decide (v1.length + ([z0]).length ≤ 4294967296) then
 L_s_l3Shift_1 c_s_l3Shift p_0 p_1 J0 n (IntKind.wrap .i64 (v0 + 1)) (v1 ++ ([z0]))
 else none
 else none
 ) else (
 J0 v1
 )

def B_s_l3Shift (f : Nat) (c_s_l3Shift : STerm → Int → Option STerm) (p_0 : STerm) (p_1 : Int) : Option STerm :=
 jn (fun (v2 : Int) => (
 jn (fun (v3 : List STerm) => (
 some ((STerm.mk p_0.kind v2 p_0.name v3))
 )) fun J0 => (
 L_s_l3Shift_1 c_s_l3Shift p_0 p_1 J0 f 0 ([] : List STerm)
 )
 )) fun J1 => (
 bif (p_0.kind == 1) then (
 J1 (IntKind.wrap .i64 (p_0.n + p_1))
 ) else (
 J1 p_0.n
 )
 )

def M_s_l3Shift : Nat → STerm → Int → Option STerm
 | 0, _, _ => none
 | f + 1, p_0, p_1 => B_s_l3Shift f (M_s_l3Shift f) p_0 p_1

def Q_s_l3Shift (c : STerm → Int → Option STerm) : Prop := ∀ (p_0 : STerm) (p_1 : Int) (r : STerm), c p_0 p_1 = some r → ∀ (σ_0 : St), AC Tryz.prog 23 [(.agg (cTerm p_0)), (I p_1)] σ_0 (fun v s => v = (.agg (cTerm r)) ∧ s = σ_0)

theorem b_s_l3Shift (f : Nat) {c_s_l3Shift : STerm → Int → Option STerm} (ih_s_l3Shift : Q_s_l3Shift c_s_l3Shift) : Q_s_l3Shift (B_s_l3Shift f c_s_l3Shift) := by
 intro p_0 p_1 r hM σ_0
 have F_0 := Fr.refl σ_0 []
 unfold B_s_l3Shift at hM
 refine AC.of_body Tryz.func23 rfl rfl (by rfl) (by simp [Tryz.f23]) <| SW.seqR fun K0 hK0 => R.op rfl (a_box (v := (.agg (cTerm p_0))) rfl rfl fun a0 σ0 n0 s0 hF0 => ?_)
 have lo0 := F_0.lo1 n0
 have F0 := F_0.andThen hF0 Lo.nil
 refine alTerm fun a1 σ1 n1 s1 hF1 => ?_
 have ne0 := ne_new n1 s0
 have lo2 := F0.lo1 n1
 have s2 := hF1.keep s0 (by simp)
 have F1 := F0.andThen hF1 Lo.nil
 refine R.done (hK0 _ _ (SW.seqR fun K1 hK1 => fp ti25 rfl rfl rfl (by decide) (ld ti3 rfl s2 rfl (fp ti25 rfl rfl rfl (by decide) (ld ti3 rfl s2 rfl (fp ti25 rfl rfl rfl (by decide) (ld ti9 rfl s2 rfl (R.opLe rfl (a_build (cs := [(I p_0.kind), (I p_0.n), (.str p_0.name), (.imm 0 [] .full)]) ti25 rfl rfl (pc rfl (pc rfl (pc rfl pn))) rfl ⟨(.agg [(I p_0.kind), (I p_0.n), (.str p_0.name), (LTerm ([] : List STerm) .full)]), Le.agg (LeL.cons (Le.refl _) (LeL.cons (Le.refl _) (LeL.cons (Le.refl _) (LeL.cons (Le.empty' _ _ _ rfl) LeL.nil)))), (alTerm fun a2 σ2 n2 s3 hF2 => ?_)⟩)))))))))
 have ne1 := ne_new n2 s2
 have ne2 := ne_new n2 s1
 have lo3 := F1.lo1 n2
 have s4 := hF2.keep s2 (by simp)
 have s5 := hF2.keep s1 (by simp)
 have F2 := F1.andThen hF2 Lo.nil
 refine R.op rfl (a_store (cs' := [(I p_0.kind), (I p_0.n), (.str p_0.name), (LTerm ([] : List STerm) .full)]) ti25 rfl rfl s3 rfl (nb rfl) rfl rfl fun σ3 s6 hF3 => ?_)
 have s7 := hF3.keep s4 (m1 ne1)
 have s8 := hF3.keep s5 (m1 ne2)
 have F3 := F2.andThen hF3 lo3
 refine R.done (hK1 _ _ (SW.seqK fun K2 hK2 => ?_))
 obtain ⟨J1, eJ0, hM⟩ := jn_elim hM
 have hJ0 : ∀ (v2 : Int) (env0 : Env) (σ4 : St), Fr σ_0 σ4 [] → env0.get 1 = some (I p_1) → env0.get 2 = some (.ptr a0 0) → env0.get 4 = some (.ptr a1 0) → env0.get 5 = some (.ptr a2 0) → σ4 a0 = some (.cells (cTerm p_0)) → σ4 a1 = some (.cells [(I 0), (I 0), (.str (⟨#[]⟩ : ByteArray)), (LTerm ([] : List STerm) .full)]) → σ4 a2 = some (.cells [(I p_0.kind), (I v2), (.str p_0.name), (LTerm ([] : List STerm) .full)]) → J1 v2 = some r → K2 env0 σ4 := by
  intro v2 env0 σ4 F4 h0 h1 h2 h3 s9 sa sb hM
  subst eJ0
  refine hK2 _ _ <| SW.seqK fun K3 hK3 => ?_
  obtain ⟨J0, eJ1, hM⟩ := jn_elim hM
  have hJ1 : ∀ (v3 : List STerm) (tk0 : Tk) (env1 : Env) (σ5 : St), Fr σ_0 σ5 [] → env1.get 4 = some (.ptr a1 0) → env1.get 5 = some (.ptr a2 0) → σ5 a0 = some (.cells (cTerm p_0)) → σ5 a1 = some (.cells [(I 0), (I 0), (.str (⟨#[]⟩ : ByteArray)), (LTerm ([] : List STerm) .full)]) → σ5 a2 = some (.cells [(I p_0.kind), (I v2), (.str p_0.name), (LTerm v3 tk0)]) → TokOk σ5 tk0 v3.length 4 → Lo σ_0 [] (tkNames tk0) → J0 v3 = some r → K3 env1 σ5 := by
   intro v3 tk0 env1 σ5 F5 h4 h5 sc sd se t0 lo4 hM
   subst eJ1
   refine hK3 _ _ <| SW.seqR fun K4 hK4 => ld (v := (.agg [(I p_0.kind), (I v2), (.str p_0.name), (LTerm v3 tk0)])) ti25 h5 se rfl <| R.op rfl (a_store (cs' := [(I p_0.kind), (I v2), (.str p_0.name), (LTerm v3 tk0)]) ti25 h4 rfl sd rfl (nb rfl) rfl rfl fun σ6 sf hF4 => ?_)
   have sg := hF4.keep se (m1 (Ne.symm ne2))
   have t1 := t0.keep hF4 (not1 (tok_cells t0 sd))
   have F6 := F5.andThen hF4 lo2
   refine R.done (hK4 _ _ (SW.ret ?_))
   obtain rfl := si hM
   exact ret_of (rcc ti25 h4 sf rfl rn) (.agg (cTerm (STerm.mk p_0.kind v2 p_0.name v3))) σ_0 (Le.agg (LeL.cons (Le.refl _) (LeL.cons (Le.refl _) (LeL.cons (Le.refl _) (LeL.cons (Le.tok _ _ _) LeL.nil))))) F6.back ⟨rfl, rfl⟩
  clear eJ1
  refine SW.seqR fun K5 hK5 => sn rfl <| R.done (hK5 _ _ (SW.block (SW.loop (LW.ind (I := fun n3 env2 σ7 => ∃ (v0 : Int) (v1 : List STerm) (tk1 : Tk), Fr σ_0 σ7 [] ∧ env2.get 1 = some (I p_1) ∧ env2.get 2 = some (.ptr a0 0) ∧ env2.get 4 = some (.ptr a1 0) ∧ env2.get 5 = some (.ptr a2 0) ∧ env2.get 6 = some (I v0) ∧ σ7 a0 = some (.cells (cTerm p_0)) ∧ σ7 a1 = some (.cells [(I 0), (I 0), (.str (⟨#[]⟩ : ByteArray)), (LTerm ([] : List STerm) .full)]) ∧ σ7 a2 = some (.cells [(I p_0.kind), (I v2), (.str p_0.name), (LTerm v1 tk1)]) ∧ TokOk σ7 tk1 v1.length 4 ∧ Lo σ_0 [] (tkNames tk1) ∧ L_s_l3Shift_1 c_s_l3Shift p_0 p_1 J0 n3 v0 v1 = some r) ?_ f _ _ ⟨0, ([] : List STerm), .full, F4, h0, h1, h2, h3, rfl, s9, sa, sb, trivial, Lo.full, hM⟩))))
  rintro n3 env2 σ7 ⟨v0, v1, tk1, F7, h6, h7, h8, h9, ha, sh, sj, sk, t2, lo5, hM⟩
  cases n3 with
  | zero => (rw [L_s_l3Shift_1] at hM; cases hM)
  | succ n3 =>
   rw [L_s_l3Shift_1] at hM
   refine SW.seq <| SW.seqR fun K6 hK6 => mv ha <| fp ti25 rfl h7 rfl (by decide) <| ld ti23 rfl sh rfl <| R.op rfl (a_lenImm ti23 rfl rfl (n := (p_0.kids.length : Int)) (by simp) (it rfl rfl rfl (R.done (hK6 _ _ (SW.cond rfl (fun hb0 => ?_) (fun hb0 => ?_))))))
   · have hM := cT hb0 hM
     refine SW.skip <| SW.seq <| SW.block <| SW.draw' mixed [(0, false), (2, false), (4, false), (7, false), (1, true), (3, false), (5, false), (6, false), (8, true), (9, false), (10, false), (11, false), (12, false)] [(a2, wLod ⟨1, 24, false, (some (.imm 0 [] .full)), (.slice 25)⟩ 3 (LTerm v1 tk1))] [] (by kernel_rfl) (by kernel_rfl) (fun t ht => by simp at ht) <| D.op rfl rfl (a_fieldPtr ti25 rfl h9 rfl (by decide) (D.op rfl rfl (a_fieldPtr ti25 rfl h7 rfl (by decide) (D.op rfl rfl (a_move ha (D.op rfl rfl (a_move h6 (D.rd rfl rfl (wat_lod sk rfl wat_nil) (lk_load ti23 rfl (wat_lod sk rfl wat_nil) (.head _)) rfl (a_loadPtr ti23 rfl sk rfl (D.op rfl rfl (a_loadPtr ti23 rfl sh rfl ?_)))))))))))
     obtain ⟨hg0, hM⟩ := gd hM
     obtain ⟨x0, hx0, hM⟩ := bd hM
     refine D.op rfl rfl (a_idxImm (f := eTerm) (xs := p_0.kids) (n := v0) (e := x0) (v := (.agg (cTerm x0))) ti23 rfl ti25 rfl rfl rfl (od hg0) hx0 (eTerm_eq x0) (D.op rfl rfl (a_loadIptr (v := (.agg (cTerm x0))) ti25 rfl rfl ?_)))
     obtain ⟨z0, hr0, hM⟩ := bd hM
     refine D.wk rfl rfl (wat_lod sk rfl wat_nil) rfl (a_call (g := 23) rfl (oc rfl (oc rfl on)) (AC.goP (ih_s_l3Shift x0 p_1 z0 hr0 _) (LeL.refl _) (⟨(wat_lod sk rfl wat_nil), (D.op rfl rfl (a_buildSlice (v := (LTerm ([z0]) .full)) (bsv_of' (es := [(.agg (cTerm z0))]) ti23 rfl ti25 (pc rfl pn) rfl ⟨rfl, by decide, by decide, rfl⟩ (by simp only [List.map_cons, List.map_nil, eTerm_eq])) ?_))⟩)))
     obtain ⟨hg1, hM⟩ := gd hM
     refine D.op rfl rfl (a_append (es := List.map eTerm v1) (ds := List.map eTerm ([z0])) (rs := List.map eTerm (v1 ++ ([z0]))) ti23 rfl ti23 rfl ti25 rfl rfl (.inl rfl) rfl rfl (by decide) (by decide) (by simpa using od hg1) (.inl rfl) (t2.len (by first | rfl | simp)) (by simp) fun tk2 σ8 t3 hF5 nn0 => ?_)
     have lo6 := F7.loTk lo5 nn0
     have sl := hF5.keep sh (tok_cells t2 sh)
     have sm := hF5.keep sj (tok_cells t2 sj)
     have so := hF5.keep sk (tok_cells t2 sk)
     have F8 := F7.andThen hF5 lo5
     refine D.op rfl rfl (a_fieldPtr ti25 rfl h9 rfl (by decide) (D.op rfl rfl (a_store (cs' := [(I p_0.kind), (I v2), (.str p_0.name), (LTerm (v1 ++ ([z0])) tk2)]) ti23 rfl rfl so rfl (nb rfl) rfl rfl fun σ9 sp hF6 => ?_)))
     have sq := hF6.keep sl (m1 ne1)
     have sr := hF6.keep sm (m1 ne2)
     have t4 := t3.keep hF6 (not1 (tok_cells t3 so))
     have F9 := F8.andThen hF6 lo3
     refine D.done <| SW.region <| mv ha <| it rfl rfl rfl <| sn rfl <| R.done ?_
     exact ⟨n3, Nat.lt_succ_self _, (IntKind.wrap .i64 (v0 + 1)), (v1 ++ ([z0])), tk2, F9, h6, h7, h8, h9, rfl, sq, sr, sp, (t4.len (by first | rfl | simp)), lo6, hM⟩
   · have hM := cF hb0 hM
     refine SW.exit <| Qte <| Qte <| Qbx ?_
     exact hJ1 v1 tk1 _ _ F7 h8 h9 sh sj sk (t2.len (by first | rfl | simp)) lo5 hM
 clear eJ0
 refine SW.seqR fun K7 hK7 => fp ti25 rfl rfl rfl (by decide) <| ld ti3 rfl s7 rfl <| it rfl rfl rfl <| R.done (hK7 _ _ (SW.cond rfl (fun hb1 => ?_) (fun hb1 => ?_)))
 · have hM := cT hb1 hM
   refine SW.region <| fp ti25 rfl rfl rfl (by decide) <| ld ti3 rfl s7 rfl <| mv rfl <| it rfl rfl rfl <| fp ti25 rfl rfl rfl (by decide) <| R.op rfl (a_store (cs' := [(I p_0.kind), (I (IntKind.wrap .i64 (p_0.n + p_1))), (.str p_0.name), (LTerm ([] : List STerm) .full)]) ti3 rfl rfl s6 rfl (nb rfl) rfl rfl fun σa ss hF7 => ?_)
   have st := hF7.keep s7 (m1 ne1)
   have su := hF7.keep s8 (m1 ne2)
   have Fa := F3.andThen hF7 lo3
   refine R.done ?_
   exact hJ0 (IntKind.wrap .i64 (p_0.n + p_1)) _ _ Fa rfl rfl rfl rfl st su ss hM
 · have hM := cF hb1 hM
   refine SW.skip ?_
   exact hJ0 p_0.n _ _ F3 rfl rfl rfl rfl s7 s8 s6 hM

theorem rr_s_l3Shift (f : Nat) : Q_s_l3Shift (M_s_l3Shift f) := by
 induction f with
 | zero => exact by intro p_0 p_1 r hM; rw [M_s_l3Shift] at hM; cases hM
 | succ f ih => exact by intro p_0 p_1 r hM; rw [M_s_l3Shift] at hM; exact b_s_l3Shift f ih p_0 p_1 r hM

theorem r_s_l3Shift (f : Nat) : Q_s_l3Shift (M_s_l3Shift f) := (rr_s_l3Shift f)

end Go.Am
