/-
  Walks of functions, printed by wip/py/gen2.py.
-/
import Derived.Test.YtbmlendfheakeaaGreatW3
namespace Go.Am
open Go.Proofs
set_option maxRecDepth 100000
set_option linter.unusedVariables false

def M_s_l18Rd_pick (f : Nat) (p_1 : Int) (o0c0_0 : List Int) (o0c1_0 : Int) : Option (Int × Int) :=
 jn (fun (v0 : Bool) => (
 bif v0 then (
 some (0, (IntKind.wrap .i64 (o0c1_0 + 1)))
 ) else (
 bif decide ((IntKind.wrap .i64 ((IntKind.wrap .i64 (o0c1_0 + 1)) - 1)) < (o0c0_0.length : Int)) then (
 bif decide (0 ≤ (IntKind.wrap .i64 ((IntKind.wrap .i64 (o0c1_0 + 1)) - 1))) then
 Option.bind (o0c0_0[((IntKind.wrap .i64 ((IntKind.wrap .i64 (o0c1_0 + 1)) - 1)) : Int).toNat]?) fun x0 =>
 bif !(p_1 == 0) then
 some (((IntKind.wrap .i64 x0).tmod p_1), (IntKind.wrap .i64 (o0c1_0 + 1)))
 else none
 else none
 ) else (
 bif !((o0c0_0.length : Int) == 0) then
 bif decide (0 ≤ ((IntKind.wrap .i64 ((IntKind.wrap .i64 (o0c1_0 + 1)) - 1)).tmod (o0c0_0.length : Int))) then
 Option.bind (o0c0_0[(((IntKind.wrap .i64 ((IntKind.wrap .i64 (o0c1_0 + 1)) - 1)).tmod (o0c0_0.length : Int)) : Int).toNat]?) fun x1 =>
 bif decide (0 ≤ ((IntKind.wrap .i64 ((IntKind.wrap .i64 ((IntKind.wrap .i64 ((IntKind.wrap .i64 (o0c1_0 + 1)) - 1)) * 7)) + 3)).tmod (o0c0_0.length : Int))) then
 Option.bind (o0c0_0[(((IntKind.wrap .i64 ((IntKind.wrap .i64 ((IntKind.wrap .i64 ((IntKind.wrap .i64 (o0c1_0 + 1)) - 1)) * 7)) + 3)).tmod (o0c0_0.length : Int)) : Int).toNat]?) fun x2 =>
 bif !(p_1 == 0) then
 some (((IntKind.wrap .i64 ((BitVec.ofInt (IntKind.bits .i64) (IntKind.wrap .i64 ((IntKind.wrap .i64 ((IntKind.wrap .i64 ((IntKind.wrap .i64 ((IntKind.wrap .i64 x1) * 131)) + (IntKind.wrap .i64 ((IntKind.wrap .i64 x2) * 1117)))) + (IntKind.wrap .i64 ((IntKind.wrap .i64 ((IntKind.wrap .i64 (o0c1_0 + 1)) - 1)) * 29)))) + (IntKind.wrap .i64 ((IntKind.wrap .i64 ((IntKind.wrap .i64 ((IntKind.wrap .i64 (o0c1_0 + 1)) - 1)).tdiv (o0c0_0.length : Int))) * 53)))) ^^^ BitVec.ofInt (IntKind.bits .i64) (IntKind.wrap .i64 ((IntKind.wrap .i64 ((IntKind.wrap .i64 ((IntKind.wrap .i64 ((IntKind.wrap .i64 ((IntKind.wrap .i64 x1) * 131)) + (IntKind.wrap .i64 ((IntKind.wrap .i64 x2) * 1117)))) + (IntKind.wrap .i64 ((IntKind.wrap .i64 ((IntKind.wrap .i64 (o0c1_0 + 1)) - 1)) * 29)))) + (IntKind.wrap .i64 ((IntKind.wrap .i64 ((IntKind.wrap .i64 ((IntKind.wrap .i64 (o0c1_0 + 1)) - 1)).tdiv (o0c0_0.length : Int))) * 53)))).tdiv 64))).toNat)).tmod p_1), (IntKind.wrap .i64 (o0c1_0 + 1)))
 else none
 else none
 else none
 else none
 )
 )
 )) fun J0 => (
 bif decide (p_1 < 1) then (
 J0 true
 ) else (
 J0 ((o0c0_0.length : Int) == 0)
 )
 )

theorem r_s_l18Rd_pick (f : Nat) (p_1 : Int) (a_0 : Nat) (o0c0_0 : List Int) (tko0c0_0 : Tk) (o0c1_0 : Int) (r : Int × Int) (hM : M_s_l18Rd_pick f p_1 o0c0_0 o0c1_0 = some r) (σ_0 : St) (s_0 : σ_0 a_0 = some (.cells [(LU o0c0_0 tko0c0_0), (I o0c1_0)])) : AC Tryz.prog 22 [(.ptr a_0 0), (I p_1)] σ_0 (fun v s => v = (I r.1) ∧ s a_0 = some (.cells [(LU o0c0_0 tko0c0_0), (I r.2)]) ∧ Fr σ_0 s [a_0]) := by
 have F_0 := Fr.refl σ_0 [a_0]
 unfold M_s_l18Rd_pick at hM
 refine AC.of_body Tryz.func22 rfl rfl (by rfl) (by simp [Tryz.f22]) <| SW.seqR fun K0 hK0 => sn rfl <| R.done (hK0 _ _ (SW.seqR fun K1 hK1 => mv rfl (mv rfl (np rfl (fp ti88 rfl rfl rfl (by decide) (ld ti3 rfl s_0 rfl (it rfl rfl rfl (np rfl (fp ti88 rfl rfl rfl (by decide) (R.op rfl (a_store (cs' := [(LU o0c0_0 tko0c0_0), (I (IntKind.wrap .i64 (o0c1_0 + 1)))]) ti3 rfl rfl s_0 rfl (nb rfl) rfl rfl fun σ0 s0 hF0 => ?_)))))))))))
 have F0 := F_0.andThen hF0 (Lo.mem fun j_ hj_ => hj_)
 refine R.done (hK1 _ _ (SW.seq (SW.seqK fun K2 hK2 => ?_)))
 obtain ⟨J0, eJ0, hM⟩ := jn_elim hM
 have hJ0 : ∀ (v0 : Bool) (env0 : Env) (σ1 : St), Fr σ_0 σ1 [a_0] → env0.get 0 = some (.ptr a_0 0) → env0.get 1 = some (I p_1) → env0.get 24 = some (.bool v0) → σ1 a_0 = some (.cells [(LU o0c0_0 tko0c0_0), (I (IntKind.wrap .i64 (o0c1_0 + 1)))]) → J0 v0 = some r → K2 env0 σ1 := by
  intro v0 env0 σ1 F1 h0 h1 h2 s1 hM
  subst eJ0
  refine hK2 _ _ <| SW.cond h2 (fun hb0 => ?_) (fun hb0 => ?_)
  · have hM := cT hb0 hM
    refine SW.seqR fun K3 hK3 => sn rfl <| R.done (hK3 _ _ (SW.ret (Qt ?_)))
    obtain rfl := si hM
    exact ret_of (rc rfl rn) (I 0) _ (Le.refl _) (StLe.refl _) ⟨rfl, s1, F1⟩
  · have hM := cF hb0 hM
    refine SW.skip <| SW.seqR fun K4 hK4 => mv h0 <| np rfl <| fp ti88 rfl rfl rfl (by decide) <| ld ti3 rfl s1 rfl <| it rfl rfl rfl <| sn rfl <| R.done (hK4 _ _ (SW.seq (SW.seqR fun K5 hK5 => mv rfl (mv h0 (np rfl (fp ti88 rfl rfl rfl (by decide) (ld ti22 rfl s1 rfl (R.op rfl (a_lenImm ti22 rfl rfl (n := (o0c0_0.length : Int)) (by simp) ?_)))))))))
    refine it rfl rfl rfl <| R.done (hK5 _ _ (SW.cond rfl (fun hb1 => ?_) (fun hb1 => ?_)))
    · have hM := cT hb1 hM
      refine SW.seqR fun K6 hK6 => mv h0 <| np rfl <| fp ti88 rfl rfl rfl (by decide) <| ld ti22 rfl s1 rfl <| mv rfl ?_
      obtain ⟨hg0, hM⟩ := gd hM
      obtain ⟨x0, hx0, hM⟩ := bd hM
      refine R.op rfl (a_idxImm (f := (AV.int .u8)) (xs := o0c0_0) (n := (IntKind.wrap .i64 ((IntKind.wrap .i64 (o0c1_0 + 1)) - 1))) (e := x0) (v := (U x0)) ti22 rfl ti5 rfl rfl rfl (od hg0) hx0 rfl (li ti5 rfl rfl (R.op rfl (a_convInt (n := x0) ti5 ti3 rfl rfl rfl (mv h1 ?_)))))
      obtain ⟨hg1, hM⟩ := gd hM
      refine it (a := (IntKind.wrap .i64 x0)) (b := p_1) (v := (I ((IntKind.wrap .i64 x0).tmod p_1))) rfl rfl (if_neg (nz hg1)) <| sn rfl <| R.done (hK6 _ _ (SW.ret (Qt ?_)))
      obtain rfl := si hM
      exact ret_of (rc rfl rn) (I ((IntKind.wrap .i64 x0).tmod p_1)) _ (Le.refl _) (StLe.refl _) ⟨rfl, s1, F1⟩
    · have hM := cF hb1 hM
      refine SW.skip <| SW.seqK fun K7 hK7 => SW.draw' mixed [(0, false), (1, false), (2, false), (4, false), (5, false), (6, false), (7, false), (15, false), (16, false), (17, false), (19, false), (20, false), (21, false), (22, false), (23, false), (24, false), (33, false), (34, false), (36, false), (37, false), (38, false), (39, false), (3, false), (8, false), (9, false), (10, false), (11, false), (12, false), (13, false), (14, false), (18, false), (25, false), (26, false), (27, false), (28, false), (29, false), (30, false), (31, false), (32, false), (35, false), (40, false), (41, false), (42, false), (43, false), (44, false), (45, false)] [] [] (by kernel_rfl) (by kernel_rfl) (fun t ht => by simp at ht) <| D.op rfl rfl (a_move h0 (D.op rfl rfl (a_nilPtr rfl (D.op rfl rfl (a_fieldPtr ti88 rfl rfl rfl (by decide) (D.op rfl rfl (a_move rfl (D.op rfl rfl (a_move h0 (D.op rfl rfl (a_nilPtr rfl (D.op rfl rfl (a_fieldPtr ti88 rfl rfl rfl (by decide) (D.op rfl rfl (a_move h0 (D.op rfl rfl (a_nilPtr rfl (D.op rfl rfl (a_fieldPtr ti88 rfl rfl rfl (by decide) (D.op rfl rfl (a_move rfl (D.op rfl rfl (a_int rfl rfl rfl (D.op rfl rfl (a_int rfl rfl rfl (D.op rfl rfl (a_move h0 ?_)))))))))))))))))))))))))))
      refine D.op rfl rfl (a_nilPtr rfl (D.op rfl rfl (a_fieldPtr ti88 rfl rfl rfl (by decide) (D.op rfl rfl (a_move rfl (D.op rfl rfl (a_int rfl rfl rfl (D.op rfl rfl (a_move rfl (D.op rfl rfl (a_move h0 (D.op rfl rfl (a_nilPtr rfl (D.op rfl rfl (a_fieldPtr ti88 rfl rfl rfl (by decide) (D.op rfl rfl (a_loadPtr ti22 rfl s1 rfl (D.op rfl rfl (a_loadPtr ti22 rfl s1 rfl (D.op rfl rfl (a_lenImm ti22 rfl rfl (n := (o0c0_0.length : Int)) (by simp) ?_)))))))))))))))))))))
      obtain ⟨hg2, hM⟩ := gd hM
      refine D.op rfl rfl (a_int (a := (IntKind.wrap .i64 ((IntKind.wrap .i64 (o0c1_0 + 1)) - 1))) (b := (o0c0_0.length : Int)) (v := (I ((IntKind.wrap .i64 ((IntKind.wrap .i64 (o0c1_0 + 1)) - 1)).tmod (o0c0_0.length : Int)))) rfl rfl (if_neg (nz hg2)) ?_)
      obtain ⟨hg3, hM⟩ := gd hM
      obtain ⟨x1, hx1, hM⟩ := bd hM
      refine D.op rfl rfl (a_idxImm (f := (AV.int .u8)) (xs := o0c0_0) (n := ((IntKind.wrap .i64 ((IntKind.wrap .i64 (o0c1_0 + 1)) - 1)).tmod (o0c0_0.length : Int))) (e := x1) (v := (U x1)) ti22 rfl ti5 rfl rfl rfl (od hg3) hx1 rfl (D.op rfl rfl (a_loadIptr ti5 rfl rfl (D.op rfl rfl (a_convInt (n := x1) ti5 ti3 rfl rfl rfl (D.op rfl rfl (a_int rfl rfl rfl (D.op rfl rfl (a_loadPtr ti22 rfl s1 rfl (D.op rfl rfl (a_loadPtr ti22 rfl s1 rfl (D.op rfl rfl (a_lenImm ti22 rfl rfl (n := (o0c0_0.length : Int)) (by simp) (D.op rfl rfl (a_int (a := (IntKind.wrap .i64 ((IntKind.wrap .i64 ((IntKind.wrap .i64 ((IntKind.wrap .i64 (o0c1_0 + 1)) - 1)) * 7)) + 3))) (b := (o0c0_0.length : Int)) (v := (I ((IntKind.wrap .i64 ((IntKind.wrap .i64 ((IntKind.wrap .i64 ((IntKind.wrap .i64 (o0c1_0 + 1)) - 1)) * 7)) + 3)).tmod (o0c0_0.length : Int)))) rfl rfl (if_neg (nz hg2)) ?_)))))))))))))))
      obtain ⟨hg4, hM⟩ := gd hM
      obtain ⟨x2, hx2, hM⟩ := bd hM
      refine D.op rfl rfl (a_idxImm (f := (AV.int .u8)) (xs := o0c0_0) (n := ((IntKind.wrap .i64 ((IntKind.wrap .i64 ((IntKind.wrap .i64 ((IntKind.wrap .i64 (o0c1_0 + 1)) - 1)) * 7)) + 3)).tmod (o0c0_0.length : Int))) (e := x2) (v := (U x2)) ti22 rfl ti5 rfl rfl rfl (od hg4) hx2 rfl (D.op rfl rfl (a_loadIptr ti5 rfl rfl (D.op rfl rfl (a_convInt (n := x2) ti5 ti3 rfl rfl rfl (D.op rfl rfl (a_int rfl rfl rfl (D.op rfl rfl (a_int rfl rfl rfl (D.op rfl rfl (a_int rfl rfl rfl (D.op rfl rfl (a_loadPtr ti22 rfl s1 rfl (D.op rfl rfl (a_lenImm ti22 rfl rfl (n := (o0c0_0.length : Int)) (by simp) (D.op rfl rfl (a_int (a := (IntKind.wrap .i64 ((IntKind.wrap .i64 (o0c1_0 + 1)) - 1))) (b := (o0c0_0.length : Int)) (v := (I (IntKind.wrap .i64 ((IntKind.wrap .i64 ((IntKind.wrap .i64 (o0c1_0 + 1)) - 1)).tdiv (o0c0_0.length : Int))))) rfl rfl (if_neg (nz hg2)) (D.op rfl rfl (a_int rfl rfl rfl (D.op rfl rfl (a_int rfl rfl rfl (D.op rfl rfl (a_assign rfl (D.done (hK7 _ _ (SW.seqR fun K8 hK8 => mv rfl (mv rfl (it (a := (IntKind.wrap .i64 ((IntKind.wrap .i64 ((IntKind.wrap .i64 ((IntKind.wrap .i64 ((IntKind.wrap .i64 x1) * 131)) + (IntKind.wrap .i64 ((IntKind.wrap .i64 x2) * 1117)))) + (IntKind.wrap .i64 ((IntKind.wrap .i64 ((IntKind.wrap .i64 (o0c1_0 + 1)) - 1)) * 29)))) + (IntKind.wrap .i64 ((IntKind.wrap .i64 ((IntKind.wrap .i64 ((IntKind.wrap .i64 (o0c1_0 + 1)) - 1)).tdiv (o0c0_0.length : Int))) * 53))))) (b := 64) rfl rfl rfl ?_))))))))))))))))))))))))))))
      refine it rfl rfl rfl <| sn rfl <| R.done (hK8 _ _ (SW.seqR fun K9 hK9 => mv rfl (mv h1 ?_)))
      obtain ⟨hg5, hM⟩ := gd hM
      refine it (a := (IntKind.wrap .i64 ((BitVec.ofInt (IntKind.bits .i64) (IntKind.wrap .i64 ((IntKind.wrap .i64 ((IntKind.wrap .i64 ((IntKind.wrap .i64 ((IntKind.wrap .i64 x1) * 131)) + (IntKind.wrap .i64 ((IntKind.wrap .i64 x2) * 1117)))) + (IntKind.wrap .i64 ((IntKind.wrap .i64 ((IntKind.wrap .i64 (o0c1_0 + 1)) - 1)) * 29)))) + (IntKind.wrap .i64 ((IntKind.wrap .i64 ((IntKind.wrap .i64 ((IntKind.wrap .i64 (o0c1_0 + 1)) - 1)).tdiv (o0c0_0.length : Int))) * 53)))) ^^^ BitVec.ofInt (IntKind.bits .i64) (IntKind.wrap .i64 ((IntKind.wrap .i64 ((IntKind.wrap .i64 ((IntKind.wrap .i64 ((IntKind.wrap .i64 ((IntKind.wrap .i64 x1) * 131)) + (IntKind.wrap .i64 ((IntKind.wrap .i64 x2) * 1117)))) + (IntKind.wrap .i64 ((IntKind.wrap .i64 ((IntKind.wrap .i64 (o0c1_0 + 1)) - 1)) * 29)))) + (IntKind.wrap .i64 ((IntKind.wrap .i64 ((IntKind.wrap .i64 ((IntKind.wrap .i64 (o0c1_0 + 1)) - 1)).tdiv (o0c0_0.length : Int))) * 53)))).tdiv 64))).toNat))) (b := p_1) (v := (I ((IntKind.wrap .i64 ((BitVec.ofInt (IntKind.bits .i64) (IntKind.wrap .i64 ((IntKind.wrap .i64 ((IntKind.wrap .i64 ((IntKind.wrap .i64 ((IntKind.wrap .i64 x1) * 131)) + (IntKind.wrap .i64 ((IntKind.wrap .i64 x2) * 1117)))) + (IntKind.wrap .i64 ((IntKind.wrap .i64 ((IntKind.wrap .i64 (o0c1_0 + 1)) - 1)) * 29)))) + (IntKind.wrap .i64 ((IntKind.wrap .i64 ((IntKind.wrap .i64 ((IntKind.wrap .i64 (o0c1_0 + 1)) - 1)).tdiv (o0c0_0.length : Int))) * 53)))) ^^^ BitVec.ofInt (IntKind.bits .i64) (IntKind.wrap .i64 ((IntKind.wrap .i64 ((IntKind.wrap .i64 ((IntKind.wrap .i64 ((IntKind.wrap .i64 ((IntKind.wrap .i64 x1) * 131)) + (IntKind.wrap .i64 ((IntKind.wrap .i64 x2) * 1117)))) + (IntKind.wrap .i64 ((IntKind.wrap .i64 ((IntKind.wrap .i64 (o0c1_0 + 1)) - 1)) * 29)))) + (IntKind.wrap .i64 ((IntKind.wrap .i64 ((IntKind.wrap .i64 ((IntKind.wrap .i64 (o0c1_0 + 1)) - 1)).tdiv (o0c0_0.length : Int))) * 53)))).tdiv 64))).toNat)).tmod p_1))) rfl rfl (if_neg (nz hg5)) <| sn rfl <| R.done (hK9 _ _ (SW.ret ?_))
      obtain rfl := si hM
      exact ret_of (rc rfl rn) (I ((IntKind.wrap .i64 ((BitVec.ofInt (IntKind.bits .i64) (IntKind.wrap .i64 ((IntKind.wrap .i64 ((IntKind.wrap .i64 ((IntKind.wrap .i64 ((IntKind.wrap .i64 x1) * 131)) + (IntKind.wrap .i64 ((IntKind.wrap .i64 x2) * 1117)))) + (IntKind.wrap .i64 ((IntKind.wrap .i64 ((IntKind.wrap .i64 (o0c1_0 + 1)) - 1)) * 29)))) + (IntKind.wrap .i64 ((IntKind.wrap .i64 ((IntKind.wrap .i64 ((IntKind.wrap .i64 (o0c1_0 + 1)) - 1)).tdiv (o0c0_0.length : Int))) * 53)))) ^^^ BitVec.ofInt (IntKind.bits .i64) (IntKind.wrap .i64 ((IntKind.wrap .i64 ((IntKind.wrap .i64 ((IntKind.wrap .i64 ((IntKind.wrap .i64 ((IntKind.wrap .i64 x1) * 131)) + (IntKind.wrap .i64 ((IntKind.wrap .i64 x2) * 1117)))) + (IntKind.wrap .i64 ((IntKind.wrap .i64 ((IntKind.wrap .i64 (o0c1_0 + 1)) - 1)) * 29)))) + (IntKind.wrap .i64 ((IntKind.wrap .i64 ((IntKind.wrap .i64 ((IntKind.wrap .i64 (o0c1_0 + 1)) - 1)).tdiv (o0c0_0.length : Int))) * 53)))).tdiv 64))).toNat)).tmod p_1)) _ (Le.refl _) (StLe.refl _) ⟨rfl, s1, F1⟩
 clear eJ0
 refine SW.region <| mv rfl <| it rfl rfl rfl <| mv rfl ?_
 rcases bcase (decide (p_1 < 1)) with hb2 | hb2
 · have hM := cT hb2 hM
   refine R.notf (decide (p_1 < 1)) rfl hb2 <| R.notf (decide (p_1 < 1)) rfl hb2 <| R.notf (decide (p_1 < 1)) rfl hb2 <| R.notf (decide (p_1 < 1)) rfl hb2 <| R.notf (decide (p_1 < 1)) rfl hb2 <| R.notf (decide (p_1 < 1)) rfl hb2 <| R.op rfl (a_pickT rfl hb2 rfl (R.done ?_))
   exact hJ0 true _ _ F0 rfl rfl rfl s0 hM
 · have hM := cF hb2 hM
   refine R.gof (decide (p_1 < 1)) rfl hb2 (a_move rfl (R.gof (decide (p_1 < 1)) rfl hb2 (a_nilPtr rfl (R.gof (decide (p_1 < 1)) rfl hb2 (a_fieldPtr ti88 rfl rfl rfl (by decide) (R.gof (decide (p_1 < 1)) rfl hb2 (a_loadPtr ti22 rfl s0 rfl (R.gof (decide (p_1 < 1)) rfl hb2 (a_lenImm ti22 rfl rfl (n := (o0c0_0.length : Int)) (by simp) (R.gof (decide (p_1 < 1)) rfl hb2 (a_int rfl rfl rfl (R.op rfl (a_pickF rfl hb2 rfl (R.done ?_))))))))))))))
   exact hJ0 ((o0c0_0.length : Int) == 0) _ _ F0 rfl rfl rfl s0 hM

def M_s_l4Program (f : Nat) (o0c0_0 : List Int) (o0c1_0 : Int) : Option ((List SClause) × Int) :=
 Option.bind (M_s_l4Texts f) fun z0 =>
 Option.bind (M_s_l18Rd_pick f (z0.length : Int) o0c0_0 o0c1_0) fun z1 =>
 bif decide (0 ≤ z1.1) then
 Option.bind (z0[(z1.1 : Int).toNat]?) fun x0 =>
 Option.bind (M_s_ParseProgram f x0) fun z2 =>
 some (z2.1, z1.2)
 else none

theorem r_s_l4Program (f : Nat) (a_0 : Nat) (o0c0_0 : List Int) (tko0c0_0 : Tk) (o0c1_0 : Int) (r : (List SClause) × Int) (hM : M_s_l4Program f o0c0_0 o0c1_0 = some r) (σ_0 : St) (s_0 : σ_0 a_0 = some (.cells [(LU o0c0_0 tko0c0_0), (I o0c1_0)])) : AC Tryz.prog 56 [(.ptr a_0 0)] σ_0 (fun v s => v = (LClause r.1 .no) ∧ s a_0 = some (.cells [(LU o0c0_0 tko0c0_0), (I r.2)]) ∧ Fr σ_0 s [a_0]) := by
 have F_0 := Fr.refl σ_0 [a_0]
 unfold M_s_l4Program at hM
 refine AC.of_body Tryz.func56 rfl rfl (by rfl) (by simp [Tryz.f56]) <| SW.seqR fun K0 hK0 => R.opLe rfl (a_assign (v := (.imm 0 [] .full)) rfl ⟨(LClause ([] : List SClause) .full), Le.empty' _ _ _ rfl, (R.done (hK0 _ _ (SW.seqR fun K1 hK1 => ?_)))⟩)
 obtain ⟨z0, hr0, hM⟩ := bd hM
 refine cp (r_s_l4Texts f z0 hr0 _) rfl on (LeL.refl _) <| sn rfl <| R.done (hK1 _ _ (SW.seqR fun K2 hK2 => mv rfl (mv rfl (mv rfl (R.op rfl (a_lenImm ti91 rfl rfl (n := (z0.length : Int)) (by simp) ?_))))))
 obtain ⟨z1, hr1, hM⟩ := bd hM
 refine cl rfl (oc rfl (oc rfl on)) (AC.go (r_s_l18Rd_pick f (z0.length : Int) a_0 o0c0_0 tko0c0_0 o0c1_0 z1 hr1 _ s_0) (LeL.refl _) (StLe.refl _) fun v_ σ0 hp_ => ?_)
 obtain ⟨rfl, s0, hF0⟩ := hp_
 have F0 := F_0.andThen hF0 (Lo.mem fun j_ hj_ => hj_)
 obtain ⟨hg0, hM⟩ := gd hM
 obtain ⟨x0, hx0, hM⟩ := bd hM
 refine R.op rfl (a_idxImm (f := AV.str) (xs := z0) (n := z1.1) (e := x0) (v := (.str x0)) ti91 rfl ti9 rfl rfl rfl (od hg0) hx0 rfl (li ti9 rfl rfl ?_))
 obtain ⟨z2, hr2, hM⟩ := bd hM
 refine cp (r_s_ParseProgram f x0 z2 hr2 _) rfl (oc rfl on) (LeL.refl _) <| mv rfl <| ex rfl rfl <| ex rfl rfl <| sn rfl <| sn rfl <| R.done (hK2 _ _ (SW.seqR fun K3 hK3 => mv rfl (sn rfl (R.done (hK3 _ _ (SW.ret ?_))))))
 obtain rfl := si hM
 exact ret_of (rc rfl rn) (LClause z2.1 .no) _ (Le.refl _) (StLe.refl _) ⟨rfl, s0, F0⟩

def M_s_l18Rd_of (f : Nat) (p_1 : (List ByteArray)) (o0c0_0 : List Int) (o0c1_0 : Int) : Option (ByteArray × Int) :=
 Option.bind (M_s_l18Rd_pick f (p_1.length : Int) o0c0_0 o0c1_0) fun z0 =>
 bif decide (0 ≤ z0.1) then
 Option.bind (p_1[(z0.1 : Int).toNat]?) fun x0 =>
 some (x0, z0.2)
 else none

theorem r_s_l18Rd_of (f : Nat) (p_1 : (List ByteArray)) (tk_1 : Tk) (a_0 : Nat) (o0c0_0 : List Int) (tko0c0_0 : Tk) (o0c1_0 : Int) (r : ByteArray × Int) (hM : M_s_l18Rd_of f p_1 o0c0_0 o0c1_0 = some r) (σ_0 : St) (s_0 : σ_0 a_0 = some (.cells [(LU o0c0_0 tko0c0_0), (I o0c1_0)])) : AC Tryz.prog 57 [(.ptr a_0 0), (LS p_1 tk_1)] σ_0 (fun v s => v = (.str r.1) ∧ s a_0 = some (.cells [(LU o0c0_0 tko0c0_0), (I r.2)]) ∧ Fr σ_0 s [a_0]) := by
 have F_0 := Fr.refl σ_0 [a_0]
 unfold M_s_l18Rd_of at hM
 refine AC.of_body Tryz.func57 rfl rfl (by rfl) (by simp [Tryz.f57]) <| SW.seqR fun K0 hK0 => sn rfl <| R.done (hK0 _ _ (SW.seqR fun K1 hK1 => mv rfl (mv rfl (mv rfl (R.op rfl (a_lenImm ti91 rfl rfl (n := (p_1.length : Int)) (by simp) ?_))))))
 obtain ⟨z0, hr0, hM⟩ := bd hM
 refine cl rfl (oc rfl (oc rfl on)) (AC.go (r_s_l18Rd_pick f (p_1.length : Int) a_0 o0c0_0 tko0c0_0 o0c1_0 z0 hr0 _ s_0) (LeL.refl _) (StLe.refl _) fun v_ σ0 hp_ => ?_)
 obtain ⟨rfl, s0, hF0⟩ := hp_
 have F0 := F_0.andThen hF0 (Lo.mem fun j_ hj_ => hj_)
 obtain ⟨hg0, hM⟩ := gd hM
 obtain ⟨x0, hx0, hM⟩ := bd hM
 refine R.op rfl (a_idxImm (f := AV.str) (xs := p_1) (n := z0.1) (e := x0) (v := (.str x0)) ti91 rfl ti9 rfl rfl rfl (od hg0) hx0 rfl (li ti9 rfl rfl (sn rfl (R.done (hK1 _ _ (SW.ret ?_))))))
 obtain rfl := si hM
 exact ret_of (rc rfl rn) (.str x0) _ (Le.refl _) (StLe.refl _) ⟨rfl, s0, F0⟩

def M_s_l18Rd_num (f : Nat) (p_1 : (List Int)) (o0c0_0 : List Int) (o0c1_0 : Int) : Option (Int × Int) :=
 Option.bind (M_s_l18Rd_pick f (p_1.length : Int) o0c0_0 o0c1_0) fun z0 =>
 bif decide (0 ≤ z0.1) then
 Option.bind (p_1[(z0.1 : Int).toNat]?) fun x0 =>
 some (x0, z0.2)
 else none

theorem r_s_l18Rd_num (f : Nat) (p_1 : (List Int)) (tk_1 : Tk) (a_0 : Nat) (o0c0_0 : List Int) (tko0c0_0 : Tk) (o0c1_0 : Int) (r : Int × Int) (hM : M_s_l18Rd_num f p_1 o0c0_0 o0c1_0 = some r) (σ_0 : St) (s_0 : σ_0 a_0 = some (.cells [(LU o0c0_0 tko0c0_0), (I o0c1_0)])) : AC Tryz.prog 46 [(.ptr a_0 0), (LI p_1 tk_1)] σ_0 (fun v s => v = (I r.1) ∧ s a_0 = some (.cells [(LU o0c0_0 tko0c0_0), (I r.2)]) ∧ Fr σ_0 s [a_0]) := by
 have F_0 := Fr.refl σ_0 [a_0]
 unfold M_s_l18Rd_num at hM
 refine AC.of_body Tryz.func46 rfl rfl (by rfl) (by simp [Tryz.f46]) <| SW.seqR fun K0 hK0 => sn rfl <| R.done (hK0 _ _ (SW.seqR fun K1 hK1 => mv rfl (mv rfl (mv rfl (R.op rfl (a_lenImm ti76 rfl rfl (n := (p_1.length : Int)) (by simp) ?_))))))
 obtain ⟨z0, hr0, hM⟩ := bd hM
 refine cl rfl (oc rfl (oc rfl on)) (AC.go (r_s_l18Rd_pick f (p_1.length : Int) a_0 o0c0_0 tko0c0_0 o0c1_0 z0 hr0 _ s_0) (LeL.refl _) (StLe.refl _) fun v_ σ0 hp_ => ?_)
 obtain ⟨rfl, s0, hF0⟩ := hp_
 have F0 := F_0.andThen hF0 (Lo.mem fun j_ hj_ => hj_)
 obtain ⟨hg0, hM⟩ := gd hM
 obtain ⟨x0, hx0, hM⟩ := bd hM
 refine R.op rfl (a_idxImm (f := (AV.int .i64)) (xs := p_1) (n := z0.1) (e := x0) (v := (I x0)) ti76 rfl ti3 rfl rfl rfl (od hg0) hx0 rfl (li ti3 rfl rfl (sn rfl (R.done (hK1 _ _ (SW.ret ?_))))))
 obtain rfl := si hM
 exact ret_of (rc rfl rn) (I x0) _ (Le.refl _) (StLe.refl _) ⟨rfl, s0, F0⟩

def L_s_l1Draw_1 (c_s_l1Draw : Int → (List Int) → Int → Option (STerm × Int)) (p_1 : Int) (o0c0_0 : List Int) (J0 : Int → List STerm → Option (STerm × Int)) : Nat → Int → List STerm → Int → Option (STerm × Int)
 | 0, _, _, _ => none
 | n + 1, v0, v1, v2 =>
 bif decide (0 < v0) then (
 Option.bind (c_s_l1Draw (IntKind.wrap .i64 (p_1 - 1)) o0c0_0 v2) fun z0 =>
 bif decide (v1.length + ([z0.1]).length ≤ 4294967296) then
 L_s_l1Draw_1 c_s_l1Draw p_1 o0c0_0 J0 n (IntKind.wrap .i64 (v0 - 1)) (v1 ++ ([z0.1])) z0.2
 else none
 ) else (
 J0 v2 v1
 )

def B_s_l1Draw (f : Nat) (c_s_l1Draw : Int → (List Int) → Int → Option (STerm × Int)) (p_1 : Int) (o0c0_0 : List Int) (o0c1_0 : Int) : Option (STerm × Int) :=
 jn (fun (v3 : Bool) (v4 : Int) => (
 bif v3 then (
 Option.bind (M_s_l18Rd_pick f 4 o0c0_0 v4) fun z1 =>
 bif (z1.1 == 0) then (
 Option.bind (M_s_l18Rd_pick f 4 o0c0_0 z1.2) fun z2 =>
 Option.bind (M_s_l1Var f z2.1) fun z3 =>
 some (z3, z2.2)
 ) else (
 bif (z1.1 == 1) then (
 Option.bind (M_s_l18Rd_num f ([0, 1, 7, (-3), 999, (-999)]) o0c0_0 z1.2) fun z4 =>
 Option.bind (M_s_l1Int f z4.1) fun z5 =>
 some (z5, z4.2)
 ) else (
 Option.bind (M_s_l18Rd_of f ([(⟨#[97]⟩ : ByteArray), (⟨#[98]⟩ : ByteArray), (⟨#[110, 105, 108]⟩ : ByteArray), (⟨#[91, 93]⟩ : ByteArray), (⟨#[102, 111, 111]⟩ : ByteArray), (⟨#[43]⟩ : ByteArray)]) o0c0_0 z1.2) fun z6 =>
 Option.bind (M_s_l1Struct f z6.1 ([] : List STerm)) fun z7 =>
 some (z7, z6.2)
 )
 )
 ) else (
 Option.bind (M_s_l18Rd_pick f 3 o0c0_0 v4) fun z8 =>
 bif (z8.1 == 0) then (
 Option.bind (c_s_l1Draw (IntKind.wrap .i64 (p_1 - 1)) o0c0_0 z8.2) fun z9 =>
 Option.bind (c_s_l1Draw (IntKind.wrap .i64 (p_1 - 1)) o0c0_0 z9.2) fun za =>
 Option.bind (M_s_l1Struct f (⟨#[46]⟩ : ByteArray) ([z9.1, za.1])) fun zb =>
 some (zb, za.2)
 ) else (
 Option.bind (M_s_l18Rd_of f ([(⟨#[102]⟩ : ByteArray), (⟨#[103]⟩ : ByteArray), (⟨#[115]⟩ : ByteArray), (⟨#[43]⟩ : ByteArray), (⟨#[61]⟩ : ByteArray), (⟨#[105, 115]⟩ : ByteArray), (⟨#[102, 111, 111]⟩ : ByteArray)]) o0c0_0 z8.2) fun zc =>
 Option.bind (M_s_l1Struct f zc.1 ([] : List STerm)) fun zd =>
 jn (fun (v5 : Int) (v6 : List STerm) => (
 some ((STerm.mk zd.kind zd.n zd.name v6), v5)
 )) fun J0 => (
 Option.bind (M_s_l18Rd_num f ([2, 1, 3, 2]) o0c0_0 zc.2) fun ze =>
 L_s_l1Draw_1 c_s_l1Draw p_1 o0c0_0 J0 f ze.1 zd.kids ze.2
 )
 )
 )
 )) fun J1 => (
 bif decide (p_1 < 2) then (
 J1 true o0c1_0
 ) else (
 Option.bind (M_s_l18Rd_pick f 4 o0c0_0 o0c1_0) fun zf =>
 J1 (zf.1 == 0) zf.2
 )
 )

def M_s_l1Draw : Nat → Int → (List Int) → Int → Option (STerm × Int)
 | 0, _, _, _ => none
 | f + 1, p_1, o0c0_0, o0c1_0 => B_s_l1Draw f (M_s_l1Draw f) p_1 o0c0_0 o0c1_0

def Q_s_l1Draw (c : Int → (List Int) → Int → Option (STerm × Int)) : Prop := ∀ (p_1 : Int) (a_0 : Nat) (o0c0_0 : List Int) (tko0c0_0 : Tk) (o0c1_0 : Int) (r : STerm × Int), c p_1 o0c0_0 o0c1_0 = some r → ∀ (σ_0 : St), (s_0 : σ_0 a_0 = some (.cells [(LU o0c0_0 tko0c0_0), (I o0c1_0)])) → AC Tryz.prog 58 [(.ptr a_0 0), (I p_1)] σ_0 (fun v s => v = (.agg (cTerm r.1)) ∧ s a_0 = some (.cells [(LU o0c0_0 tko0c0_0), (I r.2)]) ∧ Fr σ_0 s [a_0])

theorem b_s_l1Draw (f : Nat) {c_s_l1Draw : Int → (List Int) → Int → Option (STerm × Int)} (ih_s_l1Draw : Q_s_l1Draw c_s_l1Draw) : Q_s_l1Draw (B_s_l1Draw f c_s_l1Draw) := by
 intro p_1 a_0 o0c0_0 tko0c0_0 o0c1_0 r hM σ_0 s_0
 have F_0 := Fr.refl σ_0 [a_0]
 unfold B_s_l1Draw at hM
 refine AC.of_body Tryz.func58 rfl rfl (by rfl) (by simp [Tryz.f58]) <| SW.seqR fun K0 hK0 => alTerm fun a0 σ0 n0 s0 hF0 => ?_
 have ne0 := ne_new n0 s_0
 have lo0 := F_0.lo1 n0
 have s1 := hF0.keep s_0 (by simp)
 have F0 := F_0.andThen hF0 Lo.nil
 refine R.done (hK0 _ _ (SW.seq (SW.seqK fun K1 hK1 => ?_)))
 obtain ⟨J1, eJ0, hM⟩ := jn_elim hM
 have hJ0 : ∀ (v3 : Bool) (v4 : Int) (env0 : Env) (σ1 : St), Fr σ_0 σ1 [a_0] → env0.get 0 = some (.ptr a_0 0) → env0.get 1 = some (I p_1) → env0.get 4 = some (.ptr a0 0) → env0.get 13 = some (.bool v3) → σ1 a_0 = some (.cells [(LU o0c0_0 tko0c0_0), (I v4)]) → σ1 a0 = some (.cells [(I 0), (I 0), (.str (⟨#[]⟩ : ByteArray)), (LTerm ([] : List STerm) .full)]) → J1 v3 v4 = some r → K1 env0 σ1 := by
  intro v3 v4 env0 σ1 F1 h0 h1 h2 h3 s2 s3 hM
  subst eJ0
  refine hK1 _ _ <| SW.cond h3 (fun hb0 => ?_) (fun hb0 => ?_)
  · have hM := cT hb0 hM
    refine SW.seq <| SW.seqR fun K2 hK2 => mv h0 ?_
    obtain ⟨z1, hr0, hM⟩ := bd hM
    refine cl rfl (oc rfl (oc rfl on)) (AC.go (r_s_l18Rd_pick f 4 a_0 o0c0_0 tko0c0_0 v4 z1 hr0 _ s2) (LeL.refl _) (StLe.refl _) fun v_ σ2 hp_ => ?_)
    obtain ⟨rfl, s4, hF1⟩ := hp_
    have s5 := hF1.keep s3 (m1 (Ne.symm ne0))
    have F2 := F1.andThen hF1 (Lo.mem fun j_ hj_ => hj_)
    refine R.done (hK2 _ _ (SW.block (SW.seqR fun K3 hK3 => it rfl rfl rfl (sn rfl (R.done (hK3 _ _ (SW.cond rfl (fun hb1 => ?_) (fun hb1 => ?_))))))))
    · have hM := cT hb1 hM
      refine SW.seqR fun K4 hK4 => mv h0 ?_
      obtain ⟨z2, hr1, hM⟩ := bd hM
      refine cl rfl (oc rfl (oc rfl on)) (AC.go (r_s_l18Rd_pick f 4 a_0 o0c0_0 tko0c0_0 z1.2 z2 hr1 _ s4) (LeL.refl _) (StLe.refl _) fun v_ σ3 hp_ => ?_)
      obtain ⟨rfl, s6, hF2⟩ := hp_
      have s7 := hF2.keep s5 (m1 (Ne.symm ne0))
      have F3 := F2.andThen hF2 (Lo.mem fun j_ hj_ => hj_)
      obtain ⟨z3, hr2, hM⟩ := bd hM
      refine cp (r_s_l1Var f z2.1 z3 hr2 _) rfl (oc rfl on) (LeL.refl _) <| R.op rfl (a_store (cs' := [(I z3.kind), (I z3.n), (.str z3.name), (LTerm z3.kids .full)]) ti25 h2 rfl s7 rfl (nb rfl) rfl rfl fun σ4 s8 hF3 => ?_)
      have s9 := hF3.keep s6 (m1 ne0)
      have F4 := F3.andThen hF3 lo0
      refine R.done (hK4 _ _ (SW.ret (Qb (Qt (Qt ?_)))))
      obtain rfl := si hM
      exact ret_of (rcc ti25 h2 s8 rfl rn) (.agg (cTerm z3)) _ (Le.agg (LeL.cons (Le.refl _) (LeL.cons (Le.refl _) (LeL.cons (Le.refl _) (LeL.cons (Le.tok _ _ _) LeL.nil))))) (StLe.refl _) ⟨rfl, s9, F4⟩
    · have hM := cF hb1 hM
      refine SW.seqR fun K5 hK5 => it rfl rfl rfl <| sn rfl <| R.done (hK5 _ _ (SW.cond rfl (fun hb2 => ?_) (fun hb2 => ?_)))
      · have hM := cT hb2 hM
        refine SW.seqR fun K6 hK6 => mv h0 <| R.op rfl (a_buildSlice (v := (LI ([0, 1, 7, (-3), 999, (-999)]) .full)) (bsv_of ti76 rfl ti3 (pc rfl (pc rfl (pc rfl (pc rfl (pc rfl (pc rfl pn)))))) rfl ⟨rfl, by decide, by decide, rfl⟩) ?_)
        obtain ⟨z4, hr3, hM⟩ := bd hM
        refine cl rfl (oc rfl (oc rfl on)) (AC.go (r_s_l18Rd_num f ([0, 1, 7, (-3), 999, (-999)]) .full a_0 o0c0_0 tko0c0_0 z1.2 z4 hr3 _ s4) (LeL.refl _) (StLe.refl _) fun v_ σ5 hp_ => ?_)
        obtain ⟨rfl, sa, hF4⟩ := hp_
        have sb := hF4.keep s5 (m1 (Ne.symm ne0))
        have F5 := F2.andThen hF4 (Lo.mem fun j_ hj_ => hj_)
        obtain ⟨z5, hr4, hM⟩ := bd hM
        refine cp (r_s_l1Int f z4.1 z5 hr4 _) rfl (oc rfl on) (LeL.refl _) <| R.op rfl (a_store (cs' := [(I z5.kind), (I z5.n), (.str z5.name), (LTerm z5.kids .full)]) ti25 h2 rfl sb rfl (nb rfl) rfl rfl fun σ6 sc hF5 => ?_)
        have sd := hF5.keep sa (m1 ne0)
        have F6 := F5.andThen hF5 lo0
        refine R.done (hK6 _ _ (SW.ret (Qb (Qt (Qt ?_)))))
        obtain rfl := si hM
        exact ret_of (rcc ti25 h2 sc rfl rn) (.agg (cTerm z5)) _ (Le.agg (LeL.cons (Le.refl _) (LeL.cons (Le.refl _) (LeL.cons (Le.refl _) (LeL.cons (Le.tok _ _ _) LeL.nil))))) (StLe.refl _) ⟨rfl, sd, F6⟩
      · have hM := cF hb2 hM
        refine SW.skip <| SW.seqR fun K7 hK7 => mv h0 <| R.op rfl (a_buildSlice (v := (LS ([(⟨#[97]⟩ : ByteArray), (⟨#[98]⟩ : ByteArray), (⟨#[110, 105, 108]⟩ : ByteArray), (⟨#[91, 93]⟩ : ByteArray), (⟨#[102, 111, 111]⟩ : ByteArray), (⟨#[43]⟩ : ByteArray)]) .full)) (bsv_of ti91 rfl ti9 (pc rfl (pc rfl (pc rfl (pc rfl (pc rfl (pc rfl pn)))))) rfl ⟨rfl, by decide, by decide, rfl⟩) ?_)
        obtain ⟨z6, hr5, hM⟩ := bd hM
        refine cl rfl (oc rfl (oc rfl on)) (AC.go (r_s_l18Rd_of f ([(⟨#[97]⟩ : ByteArray), (⟨#[98]⟩ : ByteArray), (⟨#[110, 105, 108]⟩ : ByteArray), (⟨#[91, 93]⟩ : ByteArray), (⟨#[102, 111, 111]⟩ : ByteArray), (⟨#[43]⟩ : ByteArray)]) .full a_0 o0c0_0 tko0c0_0 z1.2 z6 hr5 _ s4) (LeL.refl _) (StLe.refl _) fun v_ σ7 hp_ => ?_)
        obtain ⟨rfl, se, hF6⟩ := hp_
        have sf := hF6.keep s5 (m1 (Ne.symm ne0))
        have F7 := F2.andThen hF6 (Lo.mem fun j_ hj_ => hj_)
        obtain ⟨z7, hr6, hM⟩ := bd hM
        refine cl rfl (oc rfl (oc rfl on)) (AC.go (r_s_l1Struct f z6.1 ([] : List STerm) .full z7 hr6 _) (LeL.cons (Le.refl _) (LeL.cons (Le.empty' _ _ _ rfl) LeL.nil)) (StLe.refl _) fun v_ σ8 hp_ => ?_)
        obtain ⟨tk0, rfl, t0, nn0, hF7⟩ := hp_
        have lo2 := Lo.call F7 Lo.nil nn0
        have sg := hF7.keep sf (by simp)
        have sh := hF7.keep se (by simp)
        have F8 := F7.andThen hF7 Lo.nil
        refine R.op rfl (a_store (cs' := [(I z7.kind), (I z7.n), (.str z7.name), (LTerm z7.kids tk0)]) ti25 h2 rfl sg rfl (nb rfl) rfl rfl fun σ9 sj hF8 => ?_)
        have sk := hF8.keep sh (m1 ne0)
        have t1 := t0.keep hF8 (not1 (tok_cells t0 sg))
        have F9 := F8.andThen hF8 lo0
        refine R.done (hK7 _ _ (SW.ret (Qt ?_)))
        obtain rfl := si hM
        exact ret_of (rcc ti25 h2 sj rfl rn) (.agg (cTerm z7)) _ (Le.agg (LeL.cons (Le.refl _) (LeL.cons (Le.refl _) (LeL.cons (Le.refl _) (LeL.cons (Le.tok _ _ _) LeL.nil))))) (StLe.refl _) ⟨rfl, sk, F9⟩
  · have hM := cF hb0 hM
    refine SW.skip <| SW.seq <| SW.seqR fun K8 hK8 => mv h0 ?_
    obtain ⟨z8, hr7, hM⟩ := bd hM
    refine cl rfl (oc rfl (oc rfl on)) (AC.go (r_s_l18Rd_pick f 3 a_0 o0c0_0 tko0c0_0 v4 z8 hr7 _ s2) (LeL.refl _) (StLe.refl _) fun v_ σa hp_ => ?_)
    obtain ⟨rfl, sl, hF9⟩ := hp_
    have sm := hF9.keep s3 (m1 (Ne.symm ne0))
    have Fa := F1.andThen hF9 (Lo.mem fun j_ hj_ => hj_)
    refine it rfl rfl rfl <| R.done (hK8 _ _ (SW.cond rfl (fun hb3 => ?_) (fun hb3 => ?_)))
    · have hM := cT hb3 hM
      refine SW.seqR fun K9 hK9 => mv h0 <| mv h1 <| it rfl rfl rfl ?_
      obtain ⟨z9, hr8, hM⟩ := bd hM
      refine cl rfl (oc rfl (oc rfl on)) (AC.go (ih_s_l1Draw (IntKind.wrap .i64 (p_1 - 1)) a_0 o0c0_0 tko0c0_0 z8.2 z9 hr8 _ sl) (LeL.refl _) (StLe.refl _) fun v_ σb hp_ => ?_)
      obtain ⟨rfl, so, hFa⟩ := hp_
      have sp := hFa.keep sm (m1 (Ne.symm ne0))
      have Fb := Fa.andThen hFa (Lo.mem fun j_ hj_ => hj_)
      refine mv h0 <| mv h1 <| it rfl rfl rfl ?_
      obtain ⟨za, hr9, hM⟩ := bd hM
      refine cl rfl (oc rfl (oc rfl on)) (AC.go (ih_s_l1Draw (IntKind.wrap .i64 (p_1 - 1)) a_0 o0c0_0 tko0c0_0 z9.2 za hr9 _ so) (LeL.refl _) (StLe.refl _) fun v_ σc hp_ => ?_)
      obtain ⟨rfl, sq, hFb⟩ := hp_
      have sr := hFb.keep sp (m1 (Ne.symm ne0))
      have Fc := Fb.andThen hFb (Lo.mem fun j_ hj_ => hj_)
      refine R.op rfl (a_buildSlice (v := (LTerm ([z9.1, za.1]) .full)) (bsv_of' (es := [(.agg (cTerm z9.1)), (.agg (cTerm za.1))]) ti23 rfl ti25 (pc rfl (pc rfl pn)) rfl ⟨rfl, by decide, by decide, rfl⟩ (by simp only [List.map_cons, List.map_nil, eTerm_eq])) ?_)
      obtain ⟨zb, hra, hM⟩ := bd hM
      refine cl rfl (oc rfl (oc rfl on)) (AC.go (r_s_l1Struct f (⟨#[46]⟩ : ByteArray) ([z9.1, za.1]) .full zb hra _) (LeL.refl _) (StLe.refl _) fun v_ σd hp_ => ?_)
      obtain ⟨tk1, rfl, t2, nn1, hFc⟩ := hp_
      have lo3 := Lo.call Fc Lo.nil nn1
      have ss := hFc.keep sr (by simp)
      have st := hFc.keep sq (by simp)
      have Fd := Fc.andThen hFc Lo.nil
      refine R.op rfl (a_store (cs' := [(I zb.kind), (I zb.n), (.str zb.name), (LTerm zb.kids tk1)]) ti25 h2 rfl ss rfl (nb rfl) rfl rfl fun σe su hFd => ?_)
      have sv := hFd.keep st (m1 ne0)
      have t3 := t2.keep hFd (not1 (tok_cells t2 ss))
      have Fe := Fd.andThen hFd lo0
      refine R.done (hK9 _ _ (SW.ret (Qt ?_)))
      obtain rfl := si hM
      exact ret_of (rcc ti25 h2 su rfl rn) (.agg (cTerm zb)) _ (Le.agg (LeL.cons (Le.refl _) (LeL.cons (Le.refl _) (LeL.cons (Le.refl _) (LeL.cons (Le.tok _ _ _) LeL.nil))))) (StLe.refl _) ⟨rfl, sv, Fe⟩
    · have hM := cF hb3 hM
      refine SW.skip <| SW.seqR fun Ka hKa => mv h0 <| R.op rfl (a_buildSlice (v := (LS ([(⟨#[102]⟩ : ByteArray), (⟨#[103]⟩ : ByteArray), (⟨#[115]⟩ : ByteArray), (⟨#[43]⟩ : ByteArray), (⟨#[61]⟩ : ByteArray), (⟨#[105, 115]⟩ : ByteArray), (⟨#[102, 111, 111]⟩ : ByteArray)]) .full)) (bsv_of ti91 rfl ti9 (pc rfl (pc rfl (pc rfl (pc rfl (pc rfl (pc rfl (pc rfl pn))))))) rfl ⟨rfl, by decide, by decide, rfl⟩) ?_)
      obtain ⟨zc, hrb, hM⟩ := bd hM
      refine cl rfl (oc rfl (oc rfl on)) (AC.go (r_s_l18Rd_of f ([(⟨#[102]⟩ : ByteArray), (⟨#[103]⟩ : ByteArray), (⟨#[115]⟩ : ByteArray), (⟨#[43]⟩ : ByteArray), (⟨#[61]⟩ : ByteArray), (⟨#[105, 115]⟩ : ByteArray), (⟨#[102, 111, 111]⟩ : ByteArray)]) .full a_0 o0c0_0 tko0c0_0 z8.2 zc hrb _ sl) (LeL.refl _) (StLe.refl _) fun v_ σf hp_ => ?_)
      obtain ⟨rfl, sw, hFe⟩ := hp_
      have sx := hFe.keep sm (m1 (Ne.symm ne0))
      have Ff := Fa.andThen hFe (Lo.mem fun j_ hj_ => hj_)
      obtain ⟨zd, hrc, hM⟩ := bd hM
      refine cl rfl (oc rfl (oc rfl on)) (AC.go (r_s_l1Struct f zc.1 ([] : List STerm) .full zd hrc _) (LeL.cons (Le.refl _) (LeL.cons (Le.empty' _ _ _ rfl) LeL.nil)) (StLe.refl _) fun v_ σg hp_ => ?_)
      obtain ⟨tk2, rfl, t4, nn2, hFf⟩ := hp_
      have lo4 := Lo.call Ff Lo.nil nn2
      have sy := hFf.keep sx (by simp)
      have sz := hFf.keep sw (by simp)
      have Fg := Ff.andThen hFf Lo.nil
      refine alTerm fun a1 σh n1 s10 hFg => ?_
      have ne1 := ne_new n1 sy
      have ne2 := ne_new n1 sz
      have lo5 := Fg.lo1 n1
      have s11 := hFg.keep sy (by simp)
      have s12 := hFg.keep sz (by simp)
      have t5 := t4.keep hFg (by simp)
      have Fh := Fg.andThen hFg Lo.nil
      refine R.op rfl (a_store (cs' := [(I zd.kind), (I zd.n), (.str zd.name), (LTerm zd.kids tk2)]) ti25 rfl rfl s10 rfl (nb rfl) rfl rfl fun σi s13 hFh => ?_)
      have s14 := hFh.keep s11 (m1 ne1)
      have s15 := hFh.keep s12 (m1 ne2)
      have t6 := t5.keep hFh (not1 (tok_cells t5 s10))
      have Fi := Fh.andThen hFh lo5
      refine R.done (hKa _ _ (SW.seqK fun Kb hKb => ?_))
      obtain ⟨J0, eJ1, hM⟩ := jn_elim hM
      have hJ1 : ∀ (v5 : Int) (v6 : List STerm) (tk3 : Tk) (env1 : Env) (σj : St), Fr σ_0 σj [a_0] → env1.get 4 = some (.ptr a0 0) → env1.get 5 = some (.ptr a1 0) → σj a0 = some (.cells [(I 0), (I 0), (.str (⟨#[]⟩ : ByteArray)), (LTerm ([] : List STerm) .full)]) → σj a_0 = some (.cells [(LU o0c0_0 tko0c0_0), (I v5)]) → σj a1 = some (.cells [(I zd.kind), (I zd.n), (.str zd.name), (LTerm v6 tk3)]) → TokOk σj tk3 v6.length 4 → Lo σ_0 [a_0] (tkNames tk3) → J0 v5 v6 = some r → Kb env1 σj := by
       intro v5 v6 tk3 env1 σj Fj h4 h5 s16 s17 s18 t7 lo6 hM
       subst eJ1
       refine hKb _ _ <| SW.seqR fun Kc hKc => ld (v := (.agg [(I zd.kind), (I zd.n), (.str zd.name), (LTerm v6 tk3)])) ti25 h5 s18 rfl <| R.op rfl (a_store (cs' := [(I zd.kind), (I zd.n), (.str zd.name), (LTerm v6 tk3)]) ti25 h4 rfl s16 rfl (nb rfl) rfl rfl fun σk s19 hFi => ?_)
       have s1a := hFi.keep s17 (m1 ne0)
       have s1b := hFi.keep s18 (m1 (Ne.symm ne1))
       have t8 := t7.keep hFi (not1 (tok_cells t7 s16))
       have Fk := Fj.andThen hFi lo0
       refine R.done (hKc _ _ (SW.ret ?_))
       obtain rfl := si hM
       exact ret_of (rcc ti25 h4 s19 rfl rn) (.agg (cTerm (STerm.mk zd.kind zd.n zd.name v6))) _ (Le.agg (LeL.cons (Le.refl _) (LeL.cons (Le.refl _) (LeL.cons (Le.refl _) (LeL.cons (Le.tok _ _ _) LeL.nil))))) (StLe.refl _) ⟨rfl, s1a, Fk⟩
      clear eJ1
      refine SW.seqR fun Kd hKd => mv h0 <| R.op rfl (a_buildSlice (v := (LI ([2, 1, 3, 2]) .full)) (bsv_of ti76 rfl ti3 (pc rfl (pc rfl (pc rfl (pc rfl pn)))) rfl ⟨rfl, by decide, by decide, rfl⟩) ?_)
      obtain ⟨ze, hrd, hM⟩ := bd hM
      refine cl rfl (oc rfl (oc rfl on)) (AC.go (r_s_l18Rd_num f ([2, 1, 3, 2]) .full a_0 o0c0_0 tko0c0_0 zc.2 ze hrd _ s15) (LeL.refl _) (StLe.refl _) fun v_ σl hp_ => ?_)
      obtain ⟨rfl, s1c, hFj⟩ := hp_
      have s1d := hFj.keep s14 (m1 (Ne.symm ne0))
      have s1e := hFj.keep s13 (m1 (Ne.symm ne2))
      have t9 := t6.keep hFj (not1 (tok_cells t6 s15))
      have Fl := Fi.andThen hFj (Lo.mem fun j_ hj_ => hj_)
      refine sn rfl <| R.done (hKd _ _ (SW.block (SW.loop (LW.ind (I := fun n2 env2 σm => ∃ (v0 : Int) (v1 : List STerm) (v2 : Int) (tk4 : Tk), Fr σ_0 σm [a_0] ∧ env2.get 0 = some (.ptr a_0 0) ∧ env2.get 1 = some (I p_1) ∧ env2.get 4 = some (.ptr a0 0) ∧ env2.get 5 = some (.ptr a1 0) ∧ env2.get 6 = some (I v0) ∧ σm a0 = some (.cells [(I 0), (I 0), (.str (⟨#[]⟩ : ByteArray)), (LTerm ([] : List STerm) .full)]) ∧ σm a1 = some (.cells [(I zd.kind), (I zd.n), (.str zd.name), (LTerm v1 tk4)]) ∧ σm a_0 = some (.cells [(LU o0c0_0 tko0c0_0), (I v2)]) ∧ TokOk σm tk4 v1.length 4 ∧ Lo σ_0 [a_0] (tkNames tk4) ∧ L_s_l1Draw_1 c_s_l1Draw p_1 o0c0_0 J0 n2 v0 v1 v2 = some r) ?_ f _ _ ⟨ze.1, zd.kids, ze.2, tk2, Fl, h0, h1, h2, rfl, rfl, s1d, s1e, s1c, (t9.len (by first | rfl | simp)), lo4, hM⟩))))
      rintro n2 env2 σm ⟨v0, v1, v2, tk4, Fm, h6, h7, h8, h9, ha, s1f, s1g, s1h, ta, lo7, hM⟩
      cases n2 with
      | zero => (rw [L_s_l1Draw_1] at hM; cases hM)
      | succ n2 =>
       rw [L_s_l1Draw_1] at hM
       refine SW.seq <| SW.seqR fun Ke hKe => mv ha <| it rfl rfl rfl <| R.done (hKe _ _ (SW.cond rfl (fun hb4 => ?_) (fun hb4 => ?_)))
       · have hM := cT hb4 hM
         refine SW.skip <| SW.seq <| SW.block <| SW.draw' mixed [(0, false), (2, false), (3, false), (4, false), (1, true), (5, true), (6, false), (7, false), (8, false), (9, false)] [(a1, wLod ⟨1, 24, false, (some (.imm 0 [] .full)), (.slice 25)⟩ 3 (LTerm v1 tk4))] [] (by kernel_rfl) (by kernel_rfl) (fun t ht => by simp at ht) <| D.op rfl rfl (a_fieldPtr ti25 rfl h9 rfl (by decide) (D.op rfl rfl (a_move h6 (D.op rfl rfl (a_move h7 (D.op rfl rfl (a_int rfl rfl rfl (D.rd rfl rfl (wat_lod s1g rfl wat_nil) (lk_load ti23 rfl (wat_lod s1g rfl wat_nil) (.head _)) rfl (a_loadPtr ti23 rfl s1g rfl ?_)))))))))
         obtain ⟨z0, hre, hM⟩ := bd hM
         refine D.wk rfl rfl (wat_lod s1g rfl wat_nil) rfl (a_call (g := 58) rfl (oc rfl (oc rfl on)) (AC.go (ih_s_l1Draw (IntKind.wrap .i64 (p_1 - 1)) a_0 o0c0_0 tko0c0_0 v2 z0 hre _ s1h) (LeL.refl _) (StLe.refl _) fun v_ σn hp_ => ?_))
         obtain ⟨rfl, s1i, hFk⟩ := hp_
         have s1j := hFk.keep s1f (m1 (Ne.symm ne0))
         have s1k := hFk.keep s1g (m1 (Ne.symm ne2))
         have tb := ta.keep hFk (not1 (tok_cells ta s1h))
         have Fn := Fm.andThen hFk (Lo.mem fun j_ hj_ => hj_)
         refine ⟨(wat_lod s1k rfl wat_nil), (D.op rfl rfl (a_buildSlice (v := (LTerm ([z0.1]) .full)) (bsv_of' (es := [(.agg (cTerm z0.1))]) ti23 rfl ti25 (pc rfl pn) rfl ⟨rfl, by decide, by decide, rfl⟩ (by simp only [List.map_cons, List.map_nil, eTerm_eq])) ?_))⟩
         obtain ⟨hg0, hM⟩ := gd hM
         refine D.op rfl rfl (a_append (es := List.map eTerm v1) (ds := List.map eTerm ([z0.1])) (rs := List.map eTerm (v1 ++ ([z0.1]))) ti23 rfl ti23 rfl ti25 rfl rfl (.inl rfl) rfl rfl (by decide) (by decide) (by simpa using od hg0) (.inl rfl) (tb.len (by first | rfl | simp)) (by simp) fun tk5 σo tc hFl nn3 => ?_)
         have lo8 := Fn.loTk lo7 nn3
         have s1l := hFl.keep s1j (tok_cells tb s1j)
         have s1m := hFl.keep s1k (tok_cells tb s1k)
         have s1n := hFl.keep s1i (tok_cells tb s1i)
         have Fo := Fn.andThen hFl lo7
         refine D.op rfl rfl (a_fieldPtr ti25 rfl h9 rfl (by decide) (D.op rfl rfl (a_store (cs' := [(I zd.kind), (I zd.n), (.str zd.name), (LTerm (v1 ++ ([z0.1])) tk5)]) ti23 rfl rfl s1m rfl (nb rfl) rfl rfl fun σp s1o hFm => ?_)))
         have s1p := hFm.keep s1l (m1 ne1)
         have s1q := hFm.keep s1n (m1 ne2)
         have td := tc.keep hFm (not1 (tok_cells tc s1m))
         have Fp := Fo.andThen hFm lo5
         refine D.done <| SW.region <| mv ha <| it rfl rfl rfl <| sn rfl <| R.done ?_
         exact ⟨n2, Nat.lt_succ_self _, (IntKind.wrap .i64 (v0 - 1)), (v1 ++ ([z0.1])), z0.2, tk5, Fp, h6, h7, h8, h9, rfl, s1p, s1o, s1q, (td.len (by first | rfl | simp)), lo8, hM⟩
       · have hM := cF hb4 hM
         refine SW.exit <| Qte <| Qte <| Qbx ?_
         exact hJ1 v2 v1 tk4 _ _ Fm h8 h9 s1f s1h s1g (ta.len (by first | rfl | simp)) lo7 hM
 clear eJ0
 refine SW.region <| mv rfl <| it rfl rfl rfl <| mv rfl ?_
 rcases bcase (decide (p_1 < 2)) with hb5 | hb5
 · have hM := cT hb5 hM
   refine R.notf (decide (p_1 < 2)) rfl hb5 <| R.notf (decide (p_1 < 2)) rfl hb5 <| R.notf (decide (p_1 < 2)) rfl hb5 <| R.op rfl (a_pickT rfl hb5 rfl (R.done ?_))
   exact hJ0 true o0c1_0 _ _ F0 rfl rfl rfl rfl s1 s0 hM
 · have hM := cF hb5 hM
   refine R.gof (decide (p_1 < 2)) rfl hb5 (a_move rfl ?_)
   obtain ⟨zf, hrf, hM⟩ := bd hM
   refine R.gof (decide (p_1 < 2)) rfl hb5 (a_call (g := 22) rfl (oc rfl (oc rfl on)) (AC.go (r_s_l18Rd_pick f 4 a_0 o0c0_0 tko0c0_0 o0c1_0 zf hrf _ s1) (LeL.refl _) (StLe.refl _) fun v_ σq hp_ => ?_))
   obtain ⟨rfl, s1r, hFn⟩ := hp_
   have s1s := hFn.keep s0 (m1 (Ne.symm ne0))
   have Fq := F0.andThen hFn (Lo.mem fun j_ hj_ => hj_)
   refine R.gof (decide (p_1 < 2)) rfl hb5 (a_int rfl rfl rfl (R.op rfl (a_pickF rfl hb5 rfl (R.done ?_))))
   exact hJ0 (zf.1 == 0) zf.2 _ _ Fq rfl rfl rfl rfl s1r s1s hM

theorem rr_s_l1Draw (f : Nat) : Q_s_l1Draw (M_s_l1Draw f) := by
 induction f with
 | zero => exact by intro p_1 a_0 o0c0_0 tko0c0_0 o0c1_0 r hM; rw [M_s_l1Draw] at hM; cases hM
 | succ f ih => exact by intro p_1 a_0 o0c0_0 tko0c0_0 o0c1_0 r hM; rw [M_s_l1Draw] at hM; exact b_s_l1Draw f ih p_1 a_0 o0c0_0 tko0c0_0 o0c1_0 r hM

theorem r_s_l1Draw (f : Nat) : Q_s_l1Draw (M_s_l1Draw f) := (rr_s_l1Draw f)

def L_s_l4Clause_1 (f : Nat) (o0c0_0 : List Int) (J0 : Int → List STerm → Option (SClause × Int)) : Nat → Int → List STerm → Int → Option (SClause × Int)
 | 0, _, _, _ => none
 | n + 1, v0, v1, v2 =>
 bif decide (0 < v0) then (
 Option.bind (M_s_l18Rd_of f ([(⟨#[112]⟩ : ByteArray), (⟨#[61]⟩ : ByteArray), (⟨#[60]⟩ : ByteArray), (⟨#[113]⟩ : ByteArray)]) o0c0_0 v2) fun z0 =>
 Option.bind (M_s_l1Draw f 2 o0c0_0 z0.2) fun z1 =>
 Option.bind (M_s_l1Draw f 2 o0c0_0 z1.2) fun z2 =>
 Option.bind (M_s_l1Struct f z0.1 ([z1.1, z2.1])) fun z3 =>
 bif decide (v1.length + ([z3]).length ≤ 4294967296) then
 L_s_l4Clause_1 f o0c0_0 J0 n (IntKind.wrap .i64 (v0 - 1)) (v1 ++ ([z3])) z2.2
 else none
 ) else (
 J0 v2 v1
 )

def M_s_l4Clause (f : Nat) (o0c0_0 : List Int) (o0c1_0 : Int) : Option (SClause × Int) :=
 Option.bind (M_s_l4Program f o0c0_0 o0c1_0) fun z4 =>
 Option.bind (M_s_l18Rd_pick f 4 o0c0_0 z4.2) fun z5 =>
 bif decide (0 < z5.1) then (
 Option.bind (M_s_l18Rd_pick f (z4.1.length : Int) o0c0_0 z5.2) fun z6 =>
 bif decide (0 ≤ z6.1) then
 Option.bind (z4.1[(z6.1 : Int).toNat]?) fun x0 =>
 some (x0, z6.2)
 else none
 ) else (
 Option.bind (M_s_l18Rd_of f ([(⟨#[112]⟩ : ByteArray), (⟨#[113]⟩ : ByteArray), (⟨#[102, 111, 111]⟩ : ByteArray)]) o0c0_0 z5.2) fun z7 =>
 Option.bind (M_s_l1Draw f 2 o0c0_0 z7.2) fun z8 =>
 Option.bind (M_s_l1Struct f z7.1 ([z8.1])) fun z9 =>
 jn (fun (v3 : Int) (v4 : List STerm) => (
 some ((SClause.mk z9 v4), v3)
 )) fun J0 => (
 Option.bind (M_s_l18Rd_pick f 3 o0c0_0 z8.2) fun za =>
 L_s_l4Clause_1 f o0c0_0 J0 f za.1 ([] : List STerm) za.2
 )
 )

theorem r_s_l4Clause (f : Nat) (a_0 : Nat) (o0c0_0 : List Int) (tko0c0_0 : Tk) (o0c1_0 : Int) (r : SClause × Int) (hM : M_s_l4Clause f o0c0_0 o0c1_0 = some r) (σ_0 : St) (s_0 : σ_0 a_0 = some (.cells [(LU o0c0_0 tko0c0_0), (I o0c1_0)])) : AC Tryz.prog 21 [(.ptr a_0 0)] σ_0 (fun v s => v = (.agg (cClause r.1)) ∧ s a_0 = some (.cells [(LU o0c0_0 tko0c0_0), (I r.2)]) ∧ Fr σ_0 s [a_0]) := by
 have F_0 := Fr.refl σ_0 [a_0]
 unfold M_s_l4Clause at hM
 refine AC.of_body Tryz.func21 rfl rfl (by rfl) (by simp [Tryz.f21]) <| SW.seqR fun K0 hK0 => alClause fun a0 σ0 n0 s0 hF0 => ?_
 have ne0 := ne_new n0 s_0
 have lo0 := F_0.lo1 n0
 have s1 := hF0.keep s_0 (by simp)
 have F0 := F_0.andThen hF0 Lo.nil
 refine R.done (hK0 _ _ (SW.seqR fun K1 hK1 => mv rfl ?_))
 obtain ⟨z4, hr0, hM⟩ := bd hM
 refine cl rfl (oc rfl on) (AC.go (r_s_l4Program f a_0 o0c0_0 tko0c0_0 o0c1_0 z4 hr0 _ s1) (LeL.refl _) (StLe.refl _) fun v_ σ1 hp_ => ?_)
 obtain ⟨rfl, s2, hF1⟩ := hp_
 have s3 := hF1.keep s0 (m1 (Ne.symm ne0))
 have F1 := F0.andThen hF1 (Lo.mem fun j_ hj_ => hj_)
 refine sn rfl <| R.done (hK1 _ _ (SW.seq (SW.seqR fun K2 hK2 => mv rfl ?_)))
 obtain ⟨z5, hr1, hM⟩ := bd hM
 refine cl rfl (oc rfl (oc rfl on)) (AC.go (r_s_l18Rd_pick f 4 a_0 o0c0_0 tko0c0_0 z4.2 z5 hr1 _ s2) (LeL.refl _) (StLe.refl _) fun v_ σ2 hp_ => ?_)
 obtain ⟨rfl, s4, hF2⟩ := hp_
 have s5 := hF2.keep s3 (m1 (Ne.symm ne0))
 have F2 := F1.andThen hF2 (Lo.mem fun j_ hj_ => hj_)
 refine it rfl rfl rfl <| R.done (hK2 _ _ (SW.cond rfl (fun hb0 => ?_) (fun hb0 => ?_)))
 · have hM := cT hb0 hM
   refine SW.seqR fun K3 hK3 => mv rfl <| mv rfl <| mv rfl <| R.op rfl (a_lenImm ti36 rfl rfl (n := (z4.1.length : Int)) (by simp) ?_)
   obtain ⟨z6, hr2, hM⟩ := bd hM
   refine cl rfl (oc rfl (oc rfl on)) (AC.go (r_s_l18Rd_pick f (z4.1.length : Int) a_0 o0c0_0 tko0c0_0 z5.2 z6 hr2 _ s4) (LeL.refl _) (StLe.refl _) fun v_ σ3 hp_ => ?_)
   obtain ⟨rfl, s6, hF3⟩ := hp_
   have s7 := hF3.keep s5 (m1 (Ne.symm ne0))
   have F3 := F2.andThen hF3 (Lo.mem fun j_ hj_ => hj_)
   obtain ⟨hg0, hM⟩ := gd hM
   obtain ⟨x0, hx0, hM⟩ := bd hM
   refine R.op rfl (a_idxImm (f := eClause) (xs := z4.1) (n := z6.1) (e := x0) (v := (.agg (cClause x0))) ti36 rfl ti27 rfl rfl rfl (od hg0) hx0 rfl (li (v := (.agg (cClause x0))) ti27 rfl rfl (R.op rfl (a_store (cs' := (cClause x0)) ti27 rfl rfl s7 rfl (nb rfl) rfl rfl fun σ4 s8 hF4 => ?_))))
   have s9 := hF4.keep s6 (m1 ne0)
   have F4 := F3.andThen hF4 lo0
   refine R.done (hK3 _ _ (SW.ret (Qt ?_)))
   obtain rfl := si hM
   exact ret_of (rcc ti27 rfl s8 rfl rn) (.agg (cClause x0)) _ (Le.refl _) (StLe.refl _) ⟨rfl, s9, F4⟩
 · have hM := cF hb0 hM
   refine SW.skip <| SW.seqR fun K4 hK4 => mv rfl <| R.op rfl (a_buildSlice (v := (LS ([(⟨#[112]⟩ : ByteArray), (⟨#[113]⟩ : ByteArray), (⟨#[102, 111, 111]⟩ : ByteArray)]) .full)) (bsv_of ti91 rfl ti9 (pc rfl (pc rfl (pc rfl pn))) rfl ⟨rfl, by decide, by decide, rfl⟩) ?_)
   obtain ⟨z7, hr3, hM⟩ := bd hM
   refine cl rfl (oc rfl (oc rfl on)) (AC.go (r_s_l18Rd_of f ([(⟨#[112]⟩ : ByteArray), (⟨#[113]⟩ : ByteArray), (⟨#[102, 111, 111]⟩ : ByteArray)]) .full a_0 o0c0_0 tko0c0_0 z5.2 z7 hr3 _ s4) (LeL.refl _) (StLe.refl _) fun v_ σ5 hp_ => ?_)
   obtain ⟨rfl, sa, hF5⟩ := hp_
   have sb := hF5.keep s5 (m1 (Ne.symm ne0))
   have F5 := F2.andThen hF5 (Lo.mem fun j_ hj_ => hj_)
   refine mv rfl ?_
   obtain ⟨z8, hr4, hM⟩ := bd hM
   refine cl rfl (oc rfl (oc rfl on)) (AC.go (r_s_l1Draw f 2 a_0 o0c0_0 tko0c0_0 z7.2 z8 hr4 _ sa) (LeL.refl _) (StLe.refl _) fun v_ σ6 hp_ => ?_)
   obtain ⟨rfl, sc, hF6⟩ := hp_
   have sd := hF6.keep sb (m1 (Ne.symm ne0))
   have F6 := F5.andThen hF6 (Lo.mem fun j_ hj_ => hj_)
   refine R.op rfl (a_buildSlice (v := (LTerm ([z8.1]) .full)) (bsv_of' (es := [(.agg (cTerm z8.1))]) ti23 rfl ti25 (pc rfl pn) rfl ⟨rfl, by decide, by decide, rfl⟩ (by simp only [List.map_cons, List.map_nil, eTerm_eq])) ?_)
   obtain ⟨z9, hr5, hM⟩ := bd hM
   refine cl rfl (oc rfl (oc rfl on)) (AC.go (r_s_l1Struct f z7.1 ([z8.1]) .full z9 hr5 _) (LeL.refl _) (StLe.refl _) fun v_ σ7 hp_ => ?_)
   obtain ⟨tk0, rfl, t0, nn0, hF7⟩ := hp_
   have lo2 := Lo.call F6 Lo.nil nn0
   have se := hF7.keep sd (by simp)
   have sf := hF7.keep sc (by simp)
   have F7 := F6.andThen hF7 Lo.nil
   refine R.opLe rfl (a_build (cs := [(I z9.kind), (I z9.n), (.str z9.name), (LTerm z9.kids tk0), (.imm 0 [] .full)]) ti27 rfl rfl (pc rfl pn) rfl ⟨(.agg [(I z9.kind), (I z9.n), (.str z9.name), (LTerm z9.kids tk0), (LTerm ([] : List STerm) .full)]), Le.agg (LeL.cons (Le.refl _) (LeL.cons (Le.refl _) (LeL.cons (Le.refl _) (LeL.cons (Le.refl _) (LeL.cons (Le.empty' _ _ _ rfl) LeL.nil))))), (alClause fun a1 σ8 n1 sg hF8 => ?_)⟩)
   have ne1 := ne_new n1 se
   have ne2 := ne_new n1 sf
   have lo3 := F7.lo1 n1
   have sh := hF8.keep se (by simp)
   have sj := hF8.keep sf (by simp)
   have t1 := t0.keep hF8 (by simp)
   have F8 := F7.andThen hF8 Lo.nil
   refine R.op rfl (a_store (cs' := [(I z9.kind), (I z9.n), (.str z9.name), (LTerm z9.kids tk0), (LTerm ([] : List STerm) .full)]) ti27 rfl rfl sg rfl (nb rfl) rfl rfl fun σ9 sk hF9 => ?_)
   have sl := hF9.keep sh (m1 ne1)
   have sm := hF9.keep sj (m1 ne2)
   have t2 := t1.keep hF9 (not1 (tok_cells t1 sg))
   have F9 := F8.andThen hF9 lo3
   refine R.done (hK4 _ _ (SW.seqK fun K5 hK5 => ?_))
   obtain ⟨J0, eJ0, hM⟩ := jn_elim hM
   have hJ0 : ∀ (v3 : Int) (v4 : List STerm) (tk1 : Tk) (env0 : Env) (σa : St), Fr σ_0 σa [a_0] → env0.get 2 = some (.ptr a0 0) → env0.get 4 = some (.ptr a1 0) → σa a0 = some (.cells [(I 0), (I 0), (.str (⟨#[]⟩ : ByteArray)), (LTerm ([] : List STerm) .full), (LTerm ([] : List STerm) .full)]) → σa a_0 = some (.cells [(LU o0c0_0 tko0c0_0), (I v3)]) → σa a1 = some (.cells [(I z9.kind), (I z9.n), (.str z9.name), (LTerm z9.kids tk0), (LTerm v4 tk1)]) → TokOk σa tk0 z9.kids.length 4 → TokOk σa tk1 v4.length 4 → Lo σ_0 [a_0] (tkNames tk1) → Dj tk0 tk1 → J0 v3 v4 = some r → K5 env0 σa := by
    intro v3 v4 tk1 env0 σa Fa h0 h1 so sp sq t3 t4 lo4 dj0 hM
    subst eJ0
    refine hK5 _ _ <| SW.seqR fun K6 hK6 => ld (v := (.agg [(I z9.kind), (I z9.n), (.str z9.name), (LTerm z9.kids tk0), (LTerm v4 tk1)])) ti27 h1 sq rfl <| R.op rfl (a_store (cs' := [(I z9.kind), (I z9.n), (.str z9.name), (LTerm z9.kids tk0), (LTerm v4 tk1)]) ti27 h0 rfl so rfl (nb rfl) rfl rfl fun σb sr hFa => ?_)
    have ss := hFa.keep sp (m1 ne0)
    have st := hFa.keep sq (m1 (Ne.symm ne1))
    have t5 := t3.keep hFa (not1 (tok_cells t3 so))
    have t6 := t4.keep hFa (not1 (tok_cells t4 so))
    have Fb := Fa.andThen hFa lo0
    refine R.done (hK6 _ _ (SW.ret ?_))
    obtain rfl := si hM
    exact ret_of (rcc ti27 h0 sr rfl rn) (.agg (cClause (SClause.mk z9 v4))) _ (Le.agg (LeL.cons (Le.refl _) (LeL.cons (Le.refl _) (LeL.cons (Le.refl _) (LeL.cons (Le.tok _ _ _) (LeL.cons (Le.tok _ _ _) LeL.nil)))))) (StLe.refl _) ⟨rfl, ss, Fb⟩
   clear eJ0
   refine SW.seqR fun K7 hK7 => mv rfl ?_
   obtain ⟨za, hr6, hM⟩ := bd hM
   refine cl rfl (oc rfl (oc rfl on)) (AC.go (r_s_l18Rd_pick f 3 a_0 o0c0_0 tko0c0_0 z8.2 za hr6 _ sm) (LeL.refl _) (StLe.refl _) fun v_ σc hp_ => ?_)
   obtain ⟨rfl, su, hFb⟩ := hp_
   have sv := hFb.keep sl (m1 (Ne.symm ne0))
   have sw := hFb.keep sk (m1 (Ne.symm ne2))
   have t7 := t2.keep hFb (not1 (tok_cells t2 sm))
   have Fc := F9.andThen hFb (Lo.mem fun j_ hj_ => hj_)
   refine sn rfl <| R.done (hK7 _ _ (SW.block (SW.loop (LW.ind (I := fun n2 env1 σd => ∃ (v0 : Int) (v1 : List STerm) (v2 : Int) (tk2 : Tk), Fr σ_0 σd [a_0] ∧ env1.get 0 = some (.ptr a_0 0) ∧ env1.get 2 = some (.ptr a0 0) ∧ env1.get 4 = some (.ptr a1 0) ∧ env1.get 5 = some (I v0) ∧ σd a0 = some (.cells [(I 0), (I 0), (.str (⟨#[]⟩ : ByteArray)), (LTerm ([] : List STerm) .full), (LTerm ([] : List STerm) .full)]) ∧ σd a1 = some (.cells [(I z9.kind), (I z9.n), (.str z9.name), (LTerm z9.kids tk0), (LTerm v1 tk2)]) ∧ σd a_0 = some (.cells [(LU o0c0_0 tko0c0_0), (I v2)]) ∧ TokOk σd tk0 z9.kids.length 4 ∧ TokOk σd tk2 v1.length 4 ∧ Lo σ_0 [a_0] (tkNames tk2) ∧ Dj tk0 tk2 ∧ L_s_l4Clause_1 f o0c0_0 J0 n2 v0 v1 v2 = some r) ?_ f _ _ ⟨za.1, ([] : List STerm), za.2, .full, Fc, rfl, rfl, rfl, rfl, sv, sw, su, (t7.len (by first | rfl | simp)), trivial, Lo.full, (Dj.fullR _), hM⟩))))
   rintro n2 env1 σd ⟨v0, v1, v2, tk2, Fd, h2, h3, h4, h5, sx, sy, sz, t8, t9, lo5, dj1, hM⟩
   cases n2 with
   | zero => (rw [L_s_l4Clause_1] at hM; cases hM)
   | succ n2 =>
    rw [L_s_l4Clause_1] at hM
    refine SW.seq <| SW.seqR fun K8 hK8 => mv h5 <| it rfl rfl rfl <| R.done (hK8 _ _ (SW.cond rfl (fun hb1 => ?_) (fun hb1 => ?_)))
    · have hM := cT hb1 hM
      refine SW.skip <| SW.seq <| SW.block <| SW.draw' mixed [(0, false), (2, false), (3, false), (5, false), (7, false), (1, true), (4, true), (6, true), (8, true), (9, false), (10, true), (11, false), (12, false), (13, false), (14, false)] [(a1, wLod ⟨1, 24, false, (some (.imm 0 [] .full)), (.slice 25)⟩ 4 (LTerm v1 tk2))] [] (by kernel_rfl) (by kernel_rfl) (fun t ht => by simp at ht) <| D.op rfl rfl (a_fieldPtr ti27 rfl h4 rfl (by decide) (D.op rfl rfl (a_move h2 (D.op rfl rfl (a_buildSlice (v := (LS ([(⟨#[112]⟩ : ByteArray), (⟨#[61]⟩ : ByteArray), (⟨#[60]⟩ : ByteArray), (⟨#[113]⟩ : ByteArray)]) .full)) (bsv_of ti91 rfl ti9 (pc rfl (pc rfl (pc rfl (pc rfl pn)))) rfl ⟨rfl, by decide, by decide, rfl⟩) (D.op rfl rfl (a_move h2 (D.op rfl rfl (a_move h2 (D.rd rfl rfl (wat_lod sy rfl wat_nil) (lk_load ti23 rfl (wat_lod sy rfl wat_nil) (.head _)) rfl (a_loadPtr ti23 rfl sy rfl ?_)))))))))))
      obtain ⟨z0, hr7, hM⟩ := bd hM
      refine D.wk rfl rfl (wat_lod sy rfl wat_nil) rfl (a_call (g := 57) rfl (oc rfl (oc rfl on)) (AC.go (r_s_l18Rd_of f ([(⟨#[112]⟩ : ByteArray), (⟨#[61]⟩ : ByteArray), (⟨#[60]⟩ : ByteArray), (⟨#[113]⟩ : ByteArray)]) .full a_0 o0c0_0 tko0c0_0 v2 z0 hr7 _ sz) (LeL.refl _) (StLe.refl _) fun v_ σe hp_ => ?_))
      obtain ⟨rfl, s10, hFc⟩ := hp_
      have s11 := hFc.keep sx (m1 (Ne.symm ne0))
      have s12 := hFc.keep sy (m1 (Ne.symm ne2))
      have ta := t8.keep hFc (not1 (tok_cells t8 sz))
      have tb := t9.keep hFc (not1 (tok_cells t9 sz))
      have Fe := Fd.andThen hFc (Lo.mem fun j_ hj_ => hj_)
      refine ⟨(wat_lod s12 rfl wat_nil), ?_⟩
      obtain ⟨z1, hr8, hM⟩ := bd hM
      refine D.wk rfl rfl (wat_lod s12 rfl wat_nil) rfl (a_call (g := 58) rfl (oc rfl (oc rfl on)) (AC.go (r_s_l1Draw f 2 a_0 o0c0_0 tko0c0_0 z0.2 z1 hr8 _ s10) (LeL.refl _) (StLe.refl _) fun v_ σf hp_ => ?_))
      obtain ⟨rfl, s13, hFd⟩ := hp_
      have s14 := hFd.keep s11 (m1 (Ne.symm ne0))
      have s15 := hFd.keep s12 (m1 (Ne.symm ne2))
      have tc := ta.keep hFd (not1 (tok_cells ta s10))
      have td := tb.keep hFd (not1 (tok_cells tb s10))
      have Ff := Fe.andThen hFd (Lo.mem fun j_ hj_ => hj_)
      refine ⟨(wat_lod s15 rfl wat_nil), ?_⟩
      obtain ⟨z2, hr9, hM⟩ := bd hM
      refine D.wk rfl rfl (wat_lod s15 rfl wat_nil) rfl (a_call (g := 58) rfl (oc rfl (oc rfl on)) (AC.go (r_s_l1Draw f 2 a_0 o0c0_0 tko0c0_0 z1.2 z2 hr9 _ s13) (LeL.refl _) (StLe.refl _) fun v_ σg hp_ => ?_))
      obtain ⟨rfl, s16, hFe⟩ := hp_
      have s17 := hFe.keep s14 (m1 (Ne.symm ne0))
      have s18 := hFe.keep s15 (m1 (Ne.symm ne2))
      have te := tc.keep hFe (not1 (tok_cells tc s13))
      have tf := td.keep hFe (not1 (tok_cells td s13))
      have Fg := Ff.andThen hFe (Lo.mem fun j_ hj_ => hj_)
      refine ⟨(wat_lod s18 rfl wat_nil), (D.op rfl rfl (a_buildSlice (v := (LTerm ([z1.1, z2.1]) .full)) (bsv_of' (es := [(.agg (cTerm z1.1)), (.agg (cTerm z2.1))]) ti23 rfl ti25 (pc rfl (pc rfl pn)) rfl ⟨rfl, by decide, by decide, rfl⟩ (by simp only [List.map_cons, List.map_nil, eTerm_eq])) ?_))⟩
      obtain ⟨z3, hra, hM⟩ := bd hM
      refine D.wk rfl rfl (wat_lod s18 rfl wat_nil) rfl (a_call (g := 51) rfl (oc rfl (oc rfl on)) (AC.go (r_s_l1Struct f z0.1 ([z1.1, z2.1]) .full z3 hra _) (LeL.refl _) (StLe.refl _) fun v_ σh hp_ => ?_))
      obtain ⟨tk3, rfl, tg, nn1, hFf⟩ := hp_
      have lo6 := Lo.call Fg Lo.nil nn1
      have dj2 := Dj.call nn1 te (by simp)
      have dj3 := Dj.call nn1 tf (by simp)
      have s19 := hFf.keep s17 (by simp)
      have s1a := hFf.keep s18 (by simp)
      have s1b := hFf.keep s16 (by simp)
      have th := te.keep hFf (by simp)
      have ti := tf.keep hFf (by simp)
      have Fh := Fg.andThen hFf Lo.nil
      refine ⟨(wat_lod s1a rfl wat_nil), (D.opLe rfl rfl rfl (a_buildSlice (v := (.imm 4 [(.agg [(I z3.kind), (I z3.n), (.str z3.name), (LTerm z3.kids tk3)])] .full)) (bsv_of (es := [(.agg [(I z3.kind), (I z3.n), (.str z3.name), (LTerm z3.kids tk3)])]) ti23 rfl ti25 (pc rfl pn) rfl ⟨rfl, by decide, by decide, rfl⟩) ⟨(LTerm ([z3]) .full), Le.elemsF (LeF.cons (Le.trans (Le.agg (LeL.cons (Le.refl _) (LeL.cons (Le.refl _) (LeL.cons (Le.refl _) (LeL.cons (Le.tok _ _ _) LeL.nil))))) (Le.of_eq (eTerm_eq z3).symm)) LeF.nil), ?_⟩))⟩
      obtain ⟨hg1, hM⟩ := gd hM
      refine D.op rfl rfl (a_append (es := List.map eTerm v1) (ds := List.map eTerm ([z3])) (rs := List.map eTerm (v1 ++ ([z3]))) ti23 rfl ti23 rfl ti25 rfl rfl (.inl rfl) rfl rfl (by decide) (by decide) (by simpa using od hg1) (.inl rfl) (ti.len (by first | rfl | simp)) (by simp) fun tk4 σi tj hFg nn2 => ?_)
      have lo7 := Fh.loTk lo5 nn2
      have dj4 := Dj.next (Dj.symm dj1) th nn2
      have dj5 := Dj.next (Dj.symm dj3) tg nn2
      have s1c := hFg.keep s19 (tok_cells ti s19)
      have s1d := hFg.keep s1a (tok_cells ti s1a)
      have s1e := hFg.keep s1b (tok_cells ti s1b)
      have tk := th.keep hFg dj1
      have tl := tg.keep hFg dj3
      have Fi := Fh.andThen hFg lo5
      refine D.op rfl rfl (a_fieldPtr ti27 rfl h4 rfl (by decide) (D.op rfl rfl (a_store (cs' := [(I z9.kind), (I z9.n), (.str z9.name), (LTerm z9.kids tk0), (LTerm (v1 ++ ([z3])) tk4)]) ti23 rfl rfl s1d rfl (nb rfl) rfl rfl fun σj s1f hFh => ?_)))
      have s1g := hFh.keep s1c (m1 ne1)
      have s1h := hFh.keep s1e (m1 ne2)
      have tm := tk.keep hFh (not1 (tok_cells tk s1d))
      have tn := tl.keep hFh (not1 (tok_cells tl s1d))
      have to := tj.keep hFh (not1 (tok_cells tj s1d))
      have Fj := Fi.andThen hFh lo3
      refine D.done <| SW.region <| mv h5 <| it rfl rfl rfl <| sn rfl <| R.done ?_
      exact ⟨n2, Nat.lt_succ_self _, (IntKind.wrap .i64 (v0 - 1)), (v1 ++ ([z3])), z2.2, tk4, Fj, h2, h3, h4, rfl, s1g, s1f, s1h, (tm.len (by first | rfl | simp)), (to.len (by first | rfl | simp)), lo7, (Dj.symm dj4), hM⟩
    · have hM := cF hb1 hM
      refine SW.exit <| Qte <| Qte <| Qbx ?_
      exact hJ0 v2 v1 tk2 _ _ Fd h3 h4 sx sz sy (t8.len (by first | rfl | simp)) (t9.len (by first | rfl | simp)) lo5 dj1 hM

def M_s_l1Some (f : Nat) (o0c0_0 : List Int) (o0c1_0 : Int) : Option (STerm × Int) :=
 Option.bind (M_s_l18Rd_num f ([3, 2, 4, 1]) o0c0_0 o0c1_0) fun z0 =>
 Option.bind (M_s_l1Draw f z0.1 o0c0_0 z0.2) fun z1 =>
 some (z1.1, z1.2)

theorem r_s_l1Some (f : Nat) (a_0 : Nat) (o0c0_0 : List Int) (tko0c0_0 : Tk) (o0c1_0 : Int) (r : STerm × Int) (hM : M_s_l1Some f o0c0_0 o0c1_0 = some r) (σ_0 : St) (s_0 : σ_0 a_0 = some (.cells [(LU o0c0_0 tko0c0_0), (I o0c1_0)])) : AC Tryz.prog 60 [(.ptr a_0 0)] σ_0 (fun v s => v = (.agg (cTerm r.1)) ∧ s a_0 = some (.cells [(LU o0c0_0 tko0c0_0), (I r.2)]) ∧ Fr σ_0 s [a_0]) := by
 have F_0 := Fr.refl σ_0 [a_0]
 unfold M_s_l1Some at hM
 refine AC.of_body Tryz.func60 rfl rfl (by rfl) (by simp [Tryz.f60]) <| SW.seqR fun K0 hK0 => alTerm fun a0 σ0 n0 s0 hF0 => ?_
 have ne0 := ne_new n0 s_0
 have lo0 := F_0.lo1 n0
 have s1 := hF0.keep s_0 (by simp)
 have F0 := F_0.andThen hF0 Lo.nil
 refine R.done (hK0 _ _ (SW.seqR fun K1 hK1 => mv rfl (mv rfl (R.op rfl (a_buildSlice (v := (LI ([3, 2, 4, 1]) .full)) (bsv_of ti76 rfl ti3 (pc rfl (pc rfl (pc rfl (pc rfl pn)))) rfl ⟨rfl, by decide, by decide, rfl⟩) ?_)))))
 obtain ⟨z0, hr0, hM⟩ := bd hM
 refine cl rfl (oc rfl (oc rfl on)) (AC.go (r_s_l18Rd_num f ([3, 2, 4, 1]) .full a_0 o0c0_0 tko0c0_0 o0c1_0 z0 hr0 _ s1) (LeL.refl _) (StLe.refl _) fun v_ σ1 hp_ => ?_)
 obtain ⟨rfl, s2, hF1⟩ := hp_
 have s3 := hF1.keep s0 (m1 (Ne.symm ne0))
 have F1 := F0.andThen hF1 (Lo.mem fun j_ hj_ => hj_)
 obtain ⟨z1, hr1, hM⟩ := bd hM
 refine cl rfl (oc rfl (oc rfl on)) (AC.go (r_s_l1Draw f z0.1 a_0 o0c0_0 tko0c0_0 z0.2 z1 hr1 _ s2) (LeL.refl _) (StLe.refl _) fun v_ σ2 hp_ => ?_)
 obtain ⟨rfl, s4, hF2⟩ := hp_
 have s5 := hF2.keep s3 (m1 (Ne.symm ne0))
 have F2 := F1.andThen hF2 (Lo.mem fun j_ hj_ => hj_)
 refine R.op rfl (a_store (cs' := (cTerm z1.1)) ti25 rfl rfl s5 rfl (nb rfl) rfl rfl fun σ3 s6 hF3 => ?_)
 have s7 := hF3.keep s4 (m1 ne0)
 have F3 := F2.andThen hF3 lo0
 refine R.done (hK1 _ _ (SW.ret ?_))
 obtain rfl := si hM
 exact ret_of (rcc ti25 rfl s6 rfl rn) (.agg (cTerm z1.1)) _ (Le.refl _) (StLe.refl _) ⟨rfl, s7, F3⟩

def L_s_l1Mutate_1 (f : Nat) (z0 : STerm) (J0 : Int → Int → Int → ByteArray → List STerm → Option (STerm × Int)) (z1 : Int × Int) : Nat → List STerm → Option (STerm × Int)
 | 0, _ => none
 | n + 1, v0 =>
 bif decide ((v0.length : Int) ≤ 4) then (
 Option.bind (M_s_l1Int f 1) fun z2 =>
 bif decide (v0.length + ([z2]).length ≤ 4294967296) then
 L_s_l1Mutate_1 f z0 J0 z1 n (v0 ++ ([z2]))
 else none
 ) else (
 J0 z1.2 z0.kind z0.n z0.name v0
 )

def L_s_l1Mutate_2 (f : Nat) (J0 : Int → Int → Int → ByteArray → List STerm → Option (STerm × Int)) (z1 : Int × Int) : Nat → Int → Int → Int → ByteArray → List STerm → Option (STerm × Int)
 | 0, _, _, _, _, _ => none
 | n + 1, v1, v2, v3, v4, v5 =>
 bif decide (v1 < 30) then (
 Option.bind (M_s_l1Struct f (⟨#[115]⟩ : ByteArray) ([(STerm.mk v2 v3 v4 v5)])) fun z3 =>
 L_s_l1Mutate_2 f J0 z1 n (IntKind.wrap .i64 (v1 + 1)) z3.kind z3.n z3.name z3.kids
 ) else (
 J0 z1.2 v2 v3 v4 v5
 )

def M_s_l1Mutate (f : Nat) (p_1 : STerm) (o0c0_0 : List Int) (o0c1_0 : Int) : Option (STerm × Int) :=
 Option.bind (M_s_l1Copy f p_1) fun z0 =>
 jn (fun (v6 : Int) (v7 : Int) (v8 : Int) (v9 : ByteArray) (va : List STerm) => (
 some ((STerm.mk v7 v8 v9 va), v6)
 )) fun J0 => (
 Option.bind (M_s_l18Rd_pick f 50 o0c0_0 o0c1_0) fun z1 =>
 bif (z1.1 == 0) then (
 Option.bind (M_s_l18Rd_num f ([0, 4, 1, 2, 3]) o0c0_0 z1.2) fun z4 =>
 J0 z4.2 z4.1 z0.n z0.name z0.kids
 ) else (
 bif (z1.1 == 1) then (
 Option.bind (M_s_l18Rd_num f ([26, 1000, (-1000), (-1), 1]) o0c0_0 z1.2) fun z5 =>
 J0 z5.2 z0.kind z5.1 z0.name z0.kids
 ) else (
 bif (z1.1 == 2) then (
 Option.bind (M_s_l18Rd_of f ([(⟨#[]⟩ : ByteArray), (⟨#[88]⟩ : ByteArray), (⟨#[116, 111, 111, 108, 111, 110, 103]⟩ : ByteArray), (⟨#[195, 169]⟩ : ByteArray), (⟨#[97]⟩ : ByteArray)]) o0c0_0 z1.2) fun z6 =>
 J0 z6.2 z0.kind z0.n z6.1 z0.kids
 ) else (
 bif (z1.1 == 3) then (
 L_s_l1Mutate_1 f z0 J0 z1 f z0.kids
 ) else (
 bif (z1.1 == 4) then (
 L_s_l1Mutate_2 f J0 z1 f 0 z0.kind z0.n z0.name z0.kids
 ) else (
 J0 z1.2 z0.kind z0.n z0.name z0.kids
 )
 )
 )
 )
 )
 )

theorem r_s_l1Mutate (f : Nat) (p_1 : STerm) (a_0 : Nat) (o0c0_0 : List Int) (tko0c0_0 : Tk) (o0c1_0 : Int) (r : STerm × Int) (hM : M_s_l1Mutate f p_1 o0c0_0 o0c1_0 = some r) (σ_0 : St) (s_0 : σ_0 a_0 = some (.cells [(LU o0c0_0 tko0c0_0), (I o0c1_0)])) : AC Tryz.prog 59 [(.ptr a_0 0), (.agg (cTerm p_1))] σ_0 (fun v s => v = (.agg (cTerm r.1)) ∧ s a_0 = some (.cells [(LU o0c0_0 tko0c0_0), (I r.2)]) ∧ Fr σ_0 s [a_0]) := by
 have F_0 := Fr.refl σ_0 [a_0]
 unfold M_s_l1Mutate at hM
 refine AC.of_body Tryz.func59 rfl rfl (by rfl) (by simp [Tryz.f59]) <| SW.seqR fun K0 hK0 => R.op rfl (a_box (v := (.agg (cTerm p_1))) rfl rfl fun a0 σ0 n0 s0 hF0 => ?_)
 have ne0 := ne_new n0 s_0
 have lo0 := F_0.lo1 n0
 have s1 := hF0.keep s_0 (by simp)
 have F0 := F_0.andThen hF0 Lo.nil
 refine alTerm fun a1 σ1 n1 s2 hF1 => ?_
 have ne1 := ne_new n1 s1
 have ne2 := ne_new n1 s0
 have lo2 := F0.lo1 n1
 have s3 := hF1.keep s1 (by simp)
 have s4 := hF1.keep s0 (by simp)
 have F1 := F0.andThen hF1 Lo.nil
 refine R.done (hK0 _ _ (SW.seqR fun K1 hK1 => ld (v := (.agg (cTerm p_1))) ti25 rfl s4 rfl ?_))
 obtain ⟨z0, hr0, hM⟩ := bd hM
 refine cl rfl (oc rfl on) (AC.go (r_s_l1Copy f p_1 z0 hr0 _) (LeL.refl _) (StLe.refl _) fun v_ σ2 hp_ => ?_)
 obtain ⟨tk0, rfl, t0, nn0, hF2⟩ := hp_
 have lo3 := Lo.call F1 Lo.nil nn0
 have s5 := hF2.keep s3 (by simp)
 have s6 := hF2.keep s4 (by simp)
 have s7 := hF2.keep s2 (by simp)
 have F2 := F1.andThen hF2 Lo.nil
 refine alTerm fun a2 σ3 n2 s8 hF3 => ?_
 have ne3 := ne_new n2 s5
 have ne4 := ne_new n2 s6
 have ne5 := ne_new n2 s7
 have lo4 := F2.lo1 n2
 have s9 := hF3.keep s5 (by simp)
 have sa := hF3.keep s6 (by simp)
 have sb := hF3.keep s7 (by simp)
 have t1 := t0.keep hF3 (by simp)
 have F3 := F2.andThen hF3 Lo.nil
 refine R.op rfl (a_store (cs' := [(I z0.kind), (I z0.n), (.str z0.name), (LTerm z0.kids tk0)]) ti25 rfl rfl s8 rfl (nb rfl) rfl rfl fun σ4 sc hF4 => ?_)
 have sd := hF4.keep s9 (m1 ne3)
 have se := hF4.keep sa (m1 ne4)
 have sf := hF4.keep sb (m1 ne5)
 have t2 := t1.keep hF4 (not1 (tok_cells t1 s8))
 have F4 := F3.andThen hF4 lo4
 refine R.done (hK1 _ _ (SW.seqK fun K2 hK2 => ?_))
 obtain ⟨J0, eJ0, hM⟩ := jn_elim hM
 have hJ0 : ∀ (v6 : Int) (v7 : Int) (v8 : Int) (v9 : ByteArray) (va : List STerm) (tk1 : Tk) (env0 : Env) (σ5 : St), Fr σ_0 σ5 [a_0] → env0.get 4 = some (.ptr a1 0) → env0.get 5 = some (.ptr a2 0) → σ5 a_0 = some (.cells [(LU o0c0_0 tko0c0_0), (I v6)]) → σ5 a1 = some (.cells [(I 0), (I 0), (.str (⟨#[]⟩ : ByteArray)), (LTerm ([] : List STerm) .full)]) → σ5 a2 = some (.cells [(I v7), (I v8), (.str v9), (LTerm va tk1)]) → TokOk σ5 tk1 va.length 4 → Lo σ_0 [a_0] (tkNames tk1) → J0 v6 v7 v8 v9 va = some r → K2 env0 σ5 := by
  intro v6 v7 v8 v9 va tk1 env0 σ5 F5 h0 h1 sg sh sj t3 lo5 hM
  subst eJ0
  refine hK2 _ _ <| SW.seqR fun K3 hK3 => ld (v := (.agg [(I v7), (I v8), (.str v9), (LTerm va tk1)])) ti25 h1 sj rfl <| R.op rfl (a_store (cs' := [(I v7), (I v8), (.str v9), (LTerm va tk1)]) ti25 h0 rfl sh rfl (nb rfl) rfl rfl fun σ6 sk hF5 => ?_)
  have sl := hF5.keep sg (m1 ne1)
  have sm := hF5.keep sj (m1 (Ne.symm ne5))
  have t4 := t3.keep hF5 (not1 (tok_cells t3 sh))
  have F6 := F5.andThen hF5 lo2
  refine R.done (hK3 _ _ (SW.ret ?_))
  obtain rfl := si hM
  exact ret_of (rcc ti25 h0 sk rfl rn) (.agg (cTerm (STerm.mk v7 v8 v9 va))) _ (Le.agg (LeL.cons (Le.refl _) (LeL.cons (Le.refl _) (LeL.cons (Le.refl _) (LeL.cons (Le.tok _ _ _) LeL.nil))))) (StLe.refl _) ⟨rfl, sl, F6⟩
 clear eJ0
 refine SW.seqR fun K4 hK4 => mv rfl ?_
 obtain ⟨z1, hr1, hM⟩ := bd hM
 refine cl rfl (oc rfl (oc rfl on)) (AC.go (r_s_l18Rd_pick f 50 a_0 o0c0_0 tko0c0_0 o0c1_0 z1 hr1 _ sd) (LeL.refl _) (StLe.refl _) fun v_ σ7 hp_ => ?_)
 obtain ⟨rfl, so, hF6⟩ := hp_
 have sp := hF6.keep sf (m1 (Ne.symm ne1))
 have sq := hF6.keep sc (m1 (Ne.symm ne3))
 have t5 := t2.keep hF6 (not1 (tok_cells t2 sd))
 have F7 := F4.andThen hF6 (Lo.mem fun j_ hj_ => hj_)
 refine R.done (hK4 _ _ (SW.block (SW.seqR fun K5 hK5 => it rfl rfl rfl (sn rfl (R.done (hK5 _ _ (SW.cond rfl (fun hb0 => ?_) (fun hb0 => ?_))))))))
 · have hM := cT hb0 hM
   refine SW.region <| mv rfl <| R.op rfl (a_buildSlice (v := (LI ([0, 4, 1, 2, 3]) .full)) (bsv_of ti76 rfl ti3 (pc rfl (pc rfl (pc rfl (pc rfl (pc rfl pn))))) rfl ⟨rfl, by decide, by decide, rfl⟩) ?_)
   obtain ⟨z4, hr2, hM⟩ := bd hM
   refine cl rfl (oc rfl (oc rfl on)) (AC.go (r_s_l18Rd_num f ([0, 4, 1, 2, 3]) .full a_0 o0c0_0 tko0c0_0 z1.2 z4 hr2 _ so) (LeL.refl _) (StLe.refl _) fun v_ σ8 hp_ => ?_)
   obtain ⟨rfl, sr, hF7⟩ := hp_
   have ss := hF7.keep sp (m1 (Ne.symm ne1))
   have st := hF7.keep sq (m1 (Ne.symm ne3))
   have t6 := t5.keep hF7 (not1 (tok_cells t5 so))
   have F8 := F7.andThen hF7 (Lo.mem fun j_ hj_ => hj_)
   refine fp ti25 rfl rfl rfl (by decide) <| R.op rfl (a_store (cs' := [(I z4.1), (I z0.n), (.str z0.name), (LTerm z0.kids tk0)]) ti3 rfl rfl st rfl (nb rfl) rfl rfl fun σ9 su hF8 => ?_)
   have sv := hF8.keep ss (m1 ne5)
   have sw := hF8.keep sr (m1 ne3)
   have t7 := t6.keep hF8 (not1 (tok_cells t6 st))
   have F9 := F8.andThen hF8 lo4
   refine R.done ?_
   exact hJ0 z4.2 z4.1 z0.n z0.name z0.kids tk0 _ _ F9 rfl rfl sw sv su (t7.len (by first | rfl | simp)) lo3 hM
 · have hM := cF hb0 hM
   refine SW.seqR fun K6 hK6 => it rfl rfl rfl <| sn rfl <| R.done (hK6 _ _ (SW.cond rfl (fun hb1 => ?_) (fun hb1 => ?_)))
   · have hM := cT hb1 hM
     refine SW.region <| mv rfl <| R.op rfl (a_buildSlice (v := (LI ([26, 1000, (-1000), (-1), 1]) .full)) (bsv_of ti76 rfl ti3 (pc rfl (pc rfl (pc rfl (pc rfl (pc rfl pn))))) rfl ⟨rfl, by decide, by decide, rfl⟩) ?_)
     obtain ⟨z5, hr3, hM⟩ := bd hM
     refine cl rfl (oc rfl (oc rfl on)) (AC.go (r_s_l18Rd_num f ([26, 1000, (-1000), (-1), 1]) .full a_0 o0c0_0 tko0c0_0 z1.2 z5 hr3 _ so) (LeL.refl _) (StLe.refl _) fun v_ σa hp_ => ?_)
     obtain ⟨rfl, sx, hF9⟩ := hp_
     have sy := hF9.keep sp (m1 (Ne.symm ne1))
     have sz := hF9.keep sq (m1 (Ne.symm ne3))
     have t8 := t5.keep hF9 (not1 (tok_cells t5 so))
     have Fa := F7.andThen hF9 (Lo.mem fun j_ hj_ => hj_)
     refine fp ti25 rfl rfl rfl (by decide) <| R.op rfl (a_store (cs' := [(I z0.kind), (I z5.1), (.str z0.name), (LTerm z0.kids tk0)]) ti3 rfl rfl sz rfl (nb rfl) rfl rfl fun σb s10 hFa => ?_)
     have s11 := hFa.keep sy (m1 ne5)
     have s12 := hFa.keep sx (m1 ne3)
     have t9 := t8.keep hFa (not1 (tok_cells t8 sz))
     have Fb := Fa.andThen hFa lo4
     refine R.done ?_
     exact hJ0 z5.2 z0.kind z5.1 z0.name z0.kids tk0 _ _ Fb rfl rfl s12 s11 s10 (t9.len (by first | rfl | simp)) lo3 hM
   · have hM := cF hb1 hM
     refine SW.seqR fun K7 hK7 => it rfl rfl rfl <| sn rfl <| R.done (hK7 _ _ (SW.cond rfl (fun hb2 => ?_) (fun hb2 => ?_)))
     · have hM := cT hb2 hM
       refine SW.region <| mv rfl <| R.op rfl (a_buildSlice (v := (LS ([(⟨#[]⟩ : ByteArray), (⟨#[88]⟩ : ByteArray), (⟨#[116, 111, 111, 108, 111, 110, 103]⟩ : ByteArray), (⟨#[195, 169]⟩ : ByteArray), (⟨#[97]⟩ : ByteArray)]) .full)) (bsv_of ti91 rfl ti9 (pc rfl (pc rfl (pc rfl (pc rfl (pc rfl pn))))) rfl ⟨rfl, by decide, by decide, rfl⟩) ?_)
       obtain ⟨z6, hr4, hM⟩ := bd hM
       refine cl rfl (oc rfl (oc rfl on)) (AC.go (r_s_l18Rd_of f ([(⟨#[]⟩ : ByteArray), (⟨#[88]⟩ : ByteArray), (⟨#[116, 111, 111, 108, 111, 110, 103]⟩ : ByteArray), (⟨#[195, 169]⟩ : ByteArray), (⟨#[97]⟩ : ByteArray)]) .full a_0 o0c0_0 tko0c0_0 z1.2 z6 hr4 _ so) (LeL.refl _) (StLe.refl _) fun v_ σc hp_ => ?_)
       obtain ⟨rfl, s13, hFb⟩ := hp_
       have s14 := hFb.keep sp (m1 (Ne.symm ne1))
       have s15 := hFb.keep sq (m1 (Ne.symm ne3))
       have ta := t5.keep hFb (not1 (tok_cells t5 so))
       have Fc := F7.andThen hFb (Lo.mem fun j_ hj_ => hj_)
       refine fp ti25 rfl rfl rfl (by decide) <| R.op rfl (a_store (cs' := [(I z0.kind), (I z0.n), (.str z6.1), (LTerm z0.kids tk0)]) ti9 rfl rfl s15 rfl (nb rfl) rfl rfl fun σd s16 hFc => ?_)
       have s17 := hFc.keep s14 (m1 ne5)
       have s18 := hFc.keep s13 (m1 ne3)
       have tb := ta.keep hFc (not1 (tok_cells ta s15))
       have Fd := Fc.andThen hFc lo4
       refine R.done ?_
       exact hJ0 z6.2 z0.kind z0.n z6.1 z0.kids tk0 _ _ Fd rfl rfl s18 s17 s16 (tb.len (by first | rfl | simp)) lo3 hM
     · have hM := cF hb2 hM
       refine SW.seqR fun K8 hK8 => it rfl rfl rfl <| sn rfl <| R.done (hK8 _ _ (SW.cond rfl (fun hb3 => ?_) (fun hb3 => ?_)))
       · have hM := cT hb3 hM
         refine SW.block <| SW.loop <| LW.ind (I := fun n3 env1 σe => ∃ (v0 : List STerm) (tk2 : Tk), Fr σ_0 σe [a_0] ∧ env1.get 4 = some (.ptr a1 0) ∧ env1.get 5 = some (.ptr a2 0) ∧ σe a1 = some (.cells [(I 0), (I 0), (.str (⟨#[]⟩ : ByteArray)), (LTerm ([] : List STerm) .full)]) ∧ σe a2 = some (.cells [(I z0.kind), (I z0.n), (.str z0.name), (LTerm v0 tk2)]) ∧ σe a_0 = some (.cells [(LU o0c0_0 tko0c0_0), (I z1.2)]) ∧ TokOk σe tk2 v0.length 4 ∧ Lo σ_0 [a_0] (tkNames tk2) ∧ L_s_l1Mutate_1 f z0 J0 z1 n3 v0 = some r) ?_ f _ _ ⟨z0.kids, tk0, F7, rfl, rfl, sp, sq, so, (t5.len (by first | rfl | simp)), lo3, hM⟩
         rintro n3 env1 σe ⟨v0, tk2, Fe, h2, h3, s19, s1a, s1b, tc, lo6, hM⟩
         cases n3 with
         | zero => (rw [L_s_l1Mutate_1] at hM; cases hM)
         | succ n3 =>
          rw [L_s_l1Mutate_1] at hM
          refine SW.seq <| SW.seqR fun K9 hK9 => fp ti25 rfl h3 rfl (by decide) <| ld ti23 rfl s1a rfl <| R.op rfl (a_lenImm ti23 rfl rfl (n := (v0.length : Int)) (by simp) (it rfl rfl rfl (R.done (hK9 _ _ (SW.cond rfl (fun hb4 => ?_) (fun hb4 => ?_))))))
          · have hM := cT hb4 hM
            refine SW.skip <| SW.block <| SW.draw' mixed [(0, false), (1, true), (2, true), (3, false), (4, false), (5, false), (6, false)] [(a2, wLod ⟨1, 24, false, (some (.imm 0 [] .full)), (.slice 25)⟩ 3 (LTerm v0 tk2))] [] (by kernel_rfl) (by kernel_rfl) (fun t ht => by simp at ht) <| D.op rfl rfl (a_fieldPtr ti25 rfl h3 rfl (by decide) (D.rd rfl rfl (wat_lod s1a rfl wat_nil) (lk_load ti23 rfl (wat_lod s1a rfl wat_nil) (.head _)) rfl (a_loadPtr ti23 rfl s1a rfl ?_)))
            obtain ⟨z2, hr5, hM⟩ := bd hM
            refine D.wk rfl rfl (wat_lod s1a rfl wat_nil) rfl (a_call (g := 90) rfl (oc rfl on) (AC.goP (r_s_l1Int f 1 z2 hr5 _) (LeL.refl _) (⟨(wat_lod s1a rfl wat_nil), (D.opLe rfl rfl rfl (a_buildSlice (v := (.imm 4 [(.agg [(I z2.kind), (I z2.n), (.str z2.name), (LTerm z2.kids .full)])] .full)) (bsv_of (es := [(.agg [(I z2.kind), (I z2.n), (.str z2.name), (LTerm z2.kids .full)])]) ti23 rfl ti25 (pc rfl pn) rfl ⟨rfl, by decide, by decide, rfl⟩) ⟨(LTerm ([z2]) .full), Le.elemsF (LeF.cons (Le.trans (Le.agg (LeL.cons (Le.refl _) (LeL.cons (Le.refl _) (LeL.cons (Le.refl _) (LeL.cons (Le.tok _ _ _) LeL.nil))))) (Le.of_eq (eTerm_eq z2).symm)) LeF.nil), ?_⟩))⟩)))
            obtain ⟨hg0, hM⟩ := gd hM
            refine D.op rfl rfl (a_append (es := List.map eTerm v0) (ds := List.map eTerm ([z2])) (rs := List.map eTerm (v0 ++ ([z2]))) ti23 rfl ti23 rfl ti25 rfl rfl (.inl rfl) rfl rfl (by decide) (by decide) (by simpa using od hg0) (.inl rfl) (tc.len (by first | rfl | simp)) (by simp) fun tk3 σf td hFd nn1 => ?_)
            have lo7 := Fe.loTk lo6 nn1
            have s1c := hFd.keep s19 (tok_cells tc s19)
            have s1d := hFd.keep s1a (tok_cells tc s1a)
            have s1e := hFd.keep s1b (tok_cells tc s1b)
            have Ff := Fe.andThen hFd lo6
            refine D.op rfl rfl (a_fieldPtr ti25 rfl h3 rfl (by decide) (D.op rfl rfl (a_store (cs' := [(I z0.kind), (I z0.n), (.str z0.name), (LTerm (v0 ++ ([z2])) tk3)]) ti23 rfl rfl s1d rfl (nb rfl) rfl rfl fun σg s1f hFe => ?_)))
            have s1g := hFe.keep s1c (m1 ne5)
            have s1h := hFe.keep s1e (m1 ne3)
            have te := td.keep hFe (not1 (tok_cells td s1d))
            have Fg := Ff.andThen hFe lo4
            refine D.done ?_
            exact ⟨n3, Nat.lt_succ_self _, (v0 ++ ([z2])), tk3, Fg, h2, h3, s1g, s1f, s1h, (te.len (by first | rfl | simp)), lo7, hM⟩
          · have hM := cF hb4 hM
            refine SW.exit <| Qte <| Qte <| Qbx ?_
            exact hJ0 z1.2 z0.kind z0.n z0.name v0 tk2 _ _ Fe h2 h3 s1b s19 s1a (tc.len (by first | rfl | simp)) lo6 hM
       · have hM := cF hb3 hM
         refine SW.seqR fun Ka hKa => it rfl rfl rfl <| sn rfl <| R.done (hKa _ _ (SW.cond rfl (fun hb5 => ?_) (fun hb5 => ?_)))
         · have hM := cT hb5 hM
           refine SW.seqR fun Kb hKb => sn rfl <| R.done (hKb _ _ (SW.block (SW.loop (LW.ind (I := fun n4 env2 σh => ∃ (v1 : Int) (v2 : Int) (v3 : Int) (v4 : ByteArray) (v5 : List STerm) (tk4 : Tk), Fr σ_0 σh [a_0] ∧ env2.get 4 = some (.ptr a1 0) ∧ env2.get 5 = some (.ptr a2 0) ∧ env2.get 6 = some (I v1) ∧ σh a1 = some (.cells [(I 0), (I 0), (.str (⟨#[]⟩ : ByteArray)), (LTerm ([] : List STerm) .full)]) ∧ σh a2 = some (.cells [(I v2), (I v3), (.str v4), (LTerm v5 tk4)]) ∧ σh a_0 = some (.cells [(LU o0c0_0 tko0c0_0), (I z1.2)]) ∧ TokOk σh tk4 v5.length 4 ∧ Lo σ_0 [a_0] (tkNames tk4) ∧ L_s_l1Mutate_2 f J0 z1 n4 v1 v2 v3 v4 v5 = some r) ?_ f _ _ ⟨0, z0.kind, z0.n, z0.name, z0.kids, tk0, F7, rfl, rfl, rfl, sp, sq, so, (t5.len (by first | rfl | simp)), lo3, hM⟩))))
           rintro n4 env2 σh ⟨v1, v2, v3, v4, v5, tk4, Fh, h4, h5, h6, s1i, s1j, s1k, tf, lo8, hM⟩
           cases n4 with
           | zero => (rw [L_s_l1Mutate_2] at hM; cases hM)
           | succ n4 =>
            rw [L_s_l1Mutate_2] at hM
            refine SW.seq <| SW.seqR fun Kc hKc => mv h6 <| it rfl rfl rfl <| R.done (hKc _ _ (SW.cond rfl (fun hb6 => ?_) (fun hb6 => ?_)))
            · have hM := cT hb6 hM
              refine SW.skip <| SW.seq <| SW.block <| SW.region <| ld (v := (.agg [(I v2), (I v3), (.str v4), (LTerm v5 tk4)])) ti25 h5 s1j rfl <| R.opLe rfl (a_buildSlice (v := (.imm 4 [(.agg [(I v2), (I v3), (.str v4), (LTerm v5 tk4)])] .full)) (bsv_of (es := [(.agg [(I v2), (I v3), (.str v4), (LTerm v5 tk4)])]) ti23 rfl ti25 (pc rfl pn) rfl ⟨rfl, by decide, by decide, rfl⟩) ⟨(LTerm ([(STerm.mk v2 v3 v4 v5)]) .full), Le.elemsF (LeF.cons (Le.trans (Le.agg (LeL.cons (Le.refl _) (LeL.cons (Le.refl _) (LeL.cons (Le.refl _) (LeL.cons (Le.tok _ _ _) LeL.nil))))) (Le.of_eq (eTerm_eq (STerm.mk v2 v3 v4 v5)).symm)) LeF.nil), ?_⟩)
              obtain ⟨z3, hr6, hM⟩ := bd hM
              refine cl rfl (oc rfl (oc rfl on)) (AC.go (r_s_l1Struct f (⟨#[115]⟩ : ByteArray) ([(STerm.mk v2 v3 v4 v5)]) .full z3 hr6 _) (LeL.refl _) (StLe.refl _) fun v_ σi hp_ => ?_)
              obtain ⟨tk5, rfl, tg, nn2, hFf⟩ := hp_
              have lo9 := Lo.call Fh Lo.nil nn2
              have dj0 := Dj.call nn2 tf (by simp)
              have s1l := hFf.keep s1i (by simp)
              have s1m := hFf.keep s1j (by simp)
              have s1n := hFf.keep s1k (by simp)
              have th := tf.keep hFf (by simp)
              have Fi := Fh.andThen hFf Lo.nil
              refine R.op rfl (a_store (cs' := [(I z3.kind), (I z3.n), (.str z3.name), (LTerm z3.kids tk5)]) ti25 h5 rfl s1m rfl (nb rfl) rfl rfl fun σj s1o hFg => ?_)
              have s1p := hFg.keep s1l (m1 ne5)
              have s1q := hFg.keep s1n (m1 ne3)
              have ti := th.keep hFg (not1 (tok_cells th s1m))
              have tj := tg.keep hFg (not1 (tok_cells tg s1m))
              have Fj := Fi.andThen hFg lo4
              refine R.done <| SW.region <| mv h6 <| it rfl rfl rfl <| sn rfl <| R.done ?_
              exact ⟨n4, Nat.lt_succ_self _, (IntKind.wrap .i64 (v1 + 1)), z3.kind, z3.n, z3.name, z3.kids, tk5, Fj, h4, h5, rfl, s1p, s1o, s1q, (tj.len (by first | rfl | simp)), lo9, hM⟩
            · have hM := cF hb6 hM
              refine SW.exit <| Qte <| Qte <| Qbx ?_
              exact hJ0 z1.2 v2 v3 v4 v5 tk4 _ _ Fh h4 h5 s1k s1i s1j (tf.len (by first | rfl | simp)) lo8 hM
         · have hM := cF hb5 hM
           refine SW.skip ?_
           exact hJ0 z1.2 z0.kind z0.n z0.name z0.kids tk0 _ _ F7 rfl rfl so sp sq (t5.len (by first | rfl | simp)) lo3 hM

def L_s_l4Mutate_1 (f : Nat) (z0 : SClause) (J0 : Int → Int → Int → ByteArray → List STerm → List STerm → Option (SClause × Int)) (z1 : Int × Int) : Nat → List STerm → Option (SClause × Int)
 | 0, _ => none
 | n + 1, v0 =>
 bif decide ((v0.length : Int) ≤ 6) then (
 Option.bind (M_s_l1Struct f (⟨#[116, 114, 117, 101]⟩ : ByteArray) ([] : List STerm)) fun z2 =>
 bif decide (v0.length + ([z2]).length ≤ 4294967296) then
 L_s_l4Mutate_1 f z0 J0 z1 n (v0 ++ ([z2]))
 else none
 ) else (
 J0 z1.2 z0.head.kind z0.head.n z0.head.name z0.head.kids v0
 )

def M_s_l4Mutate (f : Nat) (p_1 : SClause) (o0c0_0 : List Int) (o0c1_0 : Int) : Option (SClause × Int) :=
 Option.bind (M_s_l4Copy f p_1) fun z0 =>
 jn (fun (v1 : Int) (v2 : Int) (v3 : Int) (v4 : ByteArray) (v5 : List STerm) (v6 : List STerm) => (
 some ((SClause.mk (STerm.mk v2 v3 v4 v5) v6), v1)
 )) fun J0 => (
 Option.bind (M_s_l18Rd_pick f 40 o0c0_0 o0c1_0) fun z1 =>
 bif (z1.1 == 0) then (
 Option.bind (M_s_l1Some f o0c0_0 z1.2) fun z3 =>
 Option.bind (M_s_l1Mutate f z3.1 o0c0_0 z3.2) fun z4 =>
 J0 z4.2 z4.1.kind z4.1.n z4.1.name z4.1.kids z0.body
 ) else (
 bif (z1.1 == 1) then (
 Option.bind (M_s_l1Some f o0c0_0 z1.2) fun z5 =>
 Option.bind (M_s_l1Mutate f z5.1 o0c0_0 z5.2) fun z6 =>
 bif decide (z0.body.length + ([z6.1]).length ≤ 4294967296) then
 J0 z6.2 z0.head.kind z0.head.n z0.head.name z0.head.kids (z0.body ++ ([z6.1]))
 else none
 ) else (
 bif (z1.1 == 2) then (
 L_s_l4Mutate_1 f z0 J0 z1 f z0.body
 ) else (
 bif (z1.1 == 3) then (
 Option.bind (M_s_l18Rd_of f ([(⟨#[116, 114, 117, 101]⟩ : ByteArray), (⟨#[105, 115]⟩ : ByteArray), (⟨#[61]⟩ : ByteArray), (⟨#[109, 111, 100]⟩ : ByteArray), (⟨#[113]⟩ : ByteArray)]) o0c0_0 z1.2) fun z7 =>
 J0 z7.2 z0.head.kind z0.head.n z7.1 z0.head.kids z0.body
 ) else (
 J0 z1.2 z0.head.kind z0.head.n z0.head.name z0.head.kids z0.body
 )
 )
 )
 )
 )

theorem r_s_l4Mutate (f : Nat) (p_1 : SClause) (a_0 : Nat) (o0c0_0 : List Int) (tko0c0_0 : Tk) (o0c1_0 : Int) (r : SClause × Int) (hM : M_s_l4Mutate f p_1 o0c0_0 o0c1_0 = some r) (σ_0 : St) (s_0 : σ_0 a_0 = some (.cells [(LU o0c0_0 tko0c0_0), (I o0c1_0)])) : AC Tryz.prog 24 [(.ptr a_0 0), (.agg (cClause p_1))] σ_0 (fun v s => v = (.agg (cClause r.1)) ∧ s a_0 = some (.cells [(LU o0c0_0 tko0c0_0), (I r.2)]) ∧ Fr σ_0 s [a_0]) := by
 have F_0 := Fr.refl σ_0 [a_0]
 unfold M_s_l4Mutate at hM
 refine AC.of_body Tryz.func24 rfl rfl (by rfl) (by simp [Tryz.f24]) <| SW.seqR fun K0 hK0 => R.op rfl (a_box (v := (.agg (cClause p_1))) rfl rfl fun a0 σ0 n0 s0 hF0 => ?_)
 have ne0 := ne_new n0 s_0
 have lo0 := F_0.lo1 n0
 have s1 := hF0.keep s_0 (by simp)
 have F0 := F_0.andThen hF0 Lo.nil
 refine alClause fun a1 σ1 n1 s2 hF1 => ?_
 have ne1 := ne_new n1 s1
 have ne2 := ne_new n1 s0
 have lo2 := F0.lo1 n1
 have s3 := hF1.keep s1 (by simp)
 have s4 := hF1.keep s0 (by simp)
 have F1 := F0.andThen hF1 Lo.nil
 refine R.done (hK0 _ _ (SW.seqR fun K1 hK1 => ld (v := (.agg (cClause p_1))) ti27 rfl s4 rfl ?_))
 obtain ⟨z0, hr0, hM⟩ := bd hM
 refine cl rfl (oc rfl on) (AC.go (r_s_l4Copy f p_1 z0 hr0 _) (LeL.refl _) (StLe.refl _) fun v_ σ2 hp_ => ?_)
 obtain ⟨tk0, tk1, rfl, t0, nn0, t1, nn1, dj0, hF2⟩ := hp_
 have lo3 := Lo.call F1 Lo.nil nn0
 have lo4 := Lo.call F1 Lo.nil nn1
 have s5 := hF2.keep s3 (by simp)
 have s6 := hF2.keep s4 (by simp)
 have s7 := hF2.keep s2 (by simp)
 have F2 := F1.andThen hF2 Lo.nil
 refine alClause fun a2 σ3 n2 s8 hF3 => ?_
 have ne3 := ne_new n2 s5
 have ne4 := ne_new n2 s6
 have ne5 := ne_new n2 s7
 have lo5 := F2.lo1 n2
 have s9 := hF3.keep s5 (by simp)
 have sa := hF3.keep s6 (by simp)
 have sb := hF3.keep s7 (by simp)
 have t2 := t0.keep hF3 (by simp)
 have t3 := t1.keep hF3 (by simp)
 have F3 := F2.andThen hF3 Lo.nil
 refine R.op rfl (a_store (cs' := [(I z0.head.kind), (I z0.head.n), (.str z0.head.name), (LTerm z0.head.kids tk0), (LTerm z0.body tk1)]) ti27 rfl rfl s8 rfl (nb rfl) rfl rfl fun σ4 sc hF4 => ?_)
 have sd := hF4.keep s9 (m1 ne3)
 have se := hF4.keep sa (m1 ne4)
 have sf := hF4.keep sb (m1 ne5)
 have t4 := t2.keep hF4 (not1 (tok_cells t2 s8))
 have t5 := t3.keep hF4 (not1 (tok_cells t3 s8))
 have F4 := F3.andThen hF4 lo5
 refine R.done (hK1 _ _ (SW.seqK fun K2 hK2 => ?_))
 obtain ⟨J0, eJ0, hM⟩ := jn_elim hM
 have hJ0 : ∀ (v1 : Int) (v2 : Int) (v3 : Int) (v4 : ByteArray) (v5 : List STerm) (v6 : List STerm) (tk2 : Tk) (tk3 : Tk) (env0 : Env) (σ5 : St), Fr σ_0 σ5 [a_0] → env0.get 4 = some (.ptr a1 0) → env0.get 5 = some (.ptr a2 0) → σ5 a_0 = some (.cells [(LU o0c0_0 tko0c0_0), (I v1)]) → σ5 a1 = some (.cells [(I 0), (I 0), (.str (⟨#[]⟩ : ByteArray)), (LTerm ([] : List STerm) .full), (LTerm ([] : List STerm) .full)]) → σ5 a2 = some (.cells [(I v2), (I v3), (.str v4), (LTerm v5 tk2), (LTerm v6 tk3)]) → TokOk σ5 tk3 v6.length 4 → Lo σ_0 [a_0] (tkNames tk3) → J0 v1 v2 v3 v4 v5 v6 = some r → K2 env0 σ5 := by
  intro v1 v2 v3 v4 v5 v6 tk2 tk3 env0 σ5 F5 h0 h1 sg sh sj t6 lo6 hM
  subst eJ0
  refine hK2 _ _ <| SW.seqR fun K3 hK3 => ld (v := (.agg [(I v2), (I v3), (.str v4), (LTerm v5 tk2), (LTerm v6 tk3)])) ti27 h1 sj rfl <| R.op rfl (a_store (cs' := [(I v2), (I v3), (.str v4), (LTerm v5 tk2), (LTerm v6 tk3)]) ti27 h0 rfl sh rfl (nb rfl) rfl rfl fun σ6 sk hF5 => ?_)
  have sl := hF5.keep sg (m1 ne1)
  have sm := hF5.keep sj (m1 (Ne.symm ne5))
  have t7 := t6.keep hF5 (not1 (tok_cells t6 sh))
  have F6 := F5.andThen hF5 lo2
  refine R.done (hK3 _ _ (SW.ret ?_))
  obtain rfl := si hM
  exact ret_of (rcc ti27 h0 sk rfl rn) (.agg (cClause (SClause.mk (STerm.mk v2 v3 v4 v5) v6))) _ (Le.agg (LeL.cons (Le.refl _) (LeL.cons (Le.refl _) (LeL.cons (Le.refl _) (LeL.cons (Le.tok _ _ _) (LeL.cons (Le.tok _ _ _) LeL.nil)))))) (StLe.refl _) ⟨rfl, sl, F6⟩
 clear eJ0
 refine SW.seqR fun K4 hK4 => mv rfl ?_
 obtain ⟨z1, hr1, hM⟩ := bd hM
 refine cl rfl (oc rfl (oc rfl on)) (AC.go (r_s_l18Rd_pick f 40 a_0 o0c0_0 tko0c0_0 o0c1_0 z1 hr1 _ sd) (LeL.refl _) (StLe.refl _) fun v_ σ7 hp_ => ?_)
 obtain ⟨rfl, so, hF6⟩ := hp_
 have sp := hF6.keep sf (m1 (Ne.symm ne1))
 have sq := hF6.keep sc (m1 (Ne.symm ne3))
 have t8 := t4.keep hF6 (not1 (tok_cells t4 sd))
 have t9 := t5.keep hF6 (not1 (tok_cells t5 sd))
 have F7 := F4.andThen hF6 (Lo.mem fun j_ hj_ => hj_)
 refine R.done (hK4 _ _ (SW.block (SW.seqR fun K5 hK5 => it rfl rfl rfl (sn rfl (R.done (hK5 _ _ (SW.cond rfl (fun hb0 => ?_) (fun hb0 => ?_))))))))
 · have hM := cT hb0 hM
   refine SW.region <| mv rfl <| mv rfl ?_
   obtain ⟨z3, hr2, hM⟩ := bd hM
   refine cl rfl (oc rfl on) (AC.go (r_s_l1Some f a_0 o0c0_0 tko0c0_0 z1.2 z3 hr2 _ so) (LeL.refl _) (StLe.refl _) fun v_ σ8 hp_ => ?_)
   obtain ⟨rfl, sr, hF7⟩ := hp_
   have ss := hF7.keep sp (m1 (Ne.symm ne1))
   have st := hF7.keep sq (m1 (Ne.symm ne3))
   have ta := t8.keep hF7 (not1 (tok_cells t8 so))
   have tb := t9.keep hF7 (not1 (tok_cells t9 so))
   have F8 := F7.andThen hF7 (Lo.mem fun j_ hj_ => hj_)
   obtain ⟨z4, hr3, hM⟩ := bd hM
   refine cl rfl (oc rfl (oc rfl on)) (AC.go (r_s_l1Mutate f z3.1 a_0 o0c0_0 tko0c0_0 z3.2 z4 hr3 _ sr) (LeL.refl _) (StLe.refl _) fun v_ σ9 hp_ => ?_)
   obtain ⟨rfl, su, hF8⟩ := hp_
   have sv := hF8.keep ss (m1 (Ne.symm ne1))
   have sw := hF8.keep st (m1 (Ne.symm ne3))
   have tc := ta.keep hF8 (not1 (tok_cells ta sr))
   have td := tb.keep hF8 (not1 (tok_cells tb sr))
   have F9 := F8.andThen hF8 (Lo.mem fun j_ hj_ => hj_)
   refine fp ti27 rfl rfl rfl (by decide) <| R.op rfl (a_store (cs' := [(I z4.1.kind), (I z4.1.n), (.str z4.1.name), (LTerm z4.1.kids .no), (LTerm z0.body tk1)]) ti25 rfl rfl sw rfl (nb rfl) rfl rfl fun σa sx hF9 => ?_)
   have sy := hF9.keep sv (m1 ne5)
   have sz := hF9.keep su (m1 ne3)
   have te := tc.keep hF9 (not1 (tok_cells tc sw))
   have tf := td.keep hF9 (not1 (tok_cells td sw))
   have Fa := F9.andThen hF9 lo5
   refine R.done ?_
   exact hJ0 z4.2 z4.1.kind z4.1.n z4.1.name z4.1.kids z0.body .no tk1 _ _ Fa rfl rfl sz sy sx (tf.len (by first | rfl | simp)) lo4 hM
 · have hM := cF hb0 hM
   refine SW.seqR fun K6 hK6 => it rfl rfl rfl <| sn rfl <| R.done (hK6 _ _ (SW.cond rfl (fun hb1 => ?_) (fun hb1 => ?_)))
   · have hM := cT hb1 hM
     refine SW.draw' mixed [(0, false), (2, false), (3, false), (1, true), (4, true), (5, true), (6, false), (7, false), (8, false), (9, false)] [(a2, wLod ⟨1, 24, false, (some (.imm 0 [] .full)), (.slice 25)⟩ 4 (LTerm z0.body tk1))] [] (by kernel_rfl) (by kernel_rfl) (fun t ht => by simp at ht) <| D.op rfl rfl (a_fieldPtr ti27 rfl rfl rfl (by decide) (D.op rfl rfl (a_move rfl (D.op rfl rfl (a_move rfl (D.rd rfl rfl (wat_lod sq rfl wat_nil) (lk_load ti23 rfl (wat_lod sq rfl wat_nil) (.head _)) rfl (a_loadPtr ti23 rfl sq rfl ?_)))))))
     obtain ⟨z5, hr4, hM⟩ := bd hM
     refine D.wk rfl rfl (wat_lod sq rfl wat_nil) rfl (a_call (g := 60) rfl (oc rfl on) (AC.go (r_s_l1Some f a_0 o0c0_0 tko0c0_0 z1.2 z5 hr4 _ so) (LeL.refl _) (StLe.refl _) fun v_ σb hp_ => ?_))
     obtain ⟨rfl, s10, hFa⟩ := hp_
     have s11 := hFa.keep sp (m1 (Ne.symm ne1))
     have s12 := hFa.keep sq (m1 (Ne.symm ne3))
     have tg := t8.keep hFa (not1 (tok_cells t8 so))
     have th := t9.keep hFa (not1 (tok_cells t9 so))
     have Fb := F7.andThen hFa (Lo.mem fun j_ hj_ => hj_)
     refine ⟨(wat_lod s12 rfl wat_nil), ?_⟩
     obtain ⟨z6, hr5, hM⟩ := bd hM
     refine D.wk rfl rfl (wat_lod s12 rfl wat_nil) rfl (a_call (g := 59) rfl (oc rfl (oc rfl on)) (AC.go (r_s_l1Mutate f z5.1 a_0 o0c0_0 tko0c0_0 z5.2 z6 hr5 _ s10) (LeL.refl _) (StLe.refl _) fun v_ σc hp_ => ?_))
     obtain ⟨rfl, s13, hFb⟩ := hp_
     have s14 := hFb.keep s11 (m1 (Ne.symm ne1))
     have s15 := hFb.keep s12 (m1 (Ne.symm ne3))
     have ti := tg.keep hFb (not1 (tok_cells tg s10))
     have tj := th.keep hFb (not1 (tok_cells th s10))
     have Fc := Fb.andThen hFb (Lo.mem fun j_ hj_ => hj_)
     refine ⟨(wat_lod s15 rfl wat_nil), (D.op rfl rfl (a_buildSlice (v := (LTerm ([z6.1]) .full)) (bsv_of' (es := [(.agg (cTerm z6.1))]) ti23 rfl ti25 (pc rfl pn) rfl ⟨rfl, by decide, by decide, rfl⟩ (by simp only [List.map_cons, List.map_nil, eTerm_eq])) ?_))⟩
     obtain ⟨hg0, hM⟩ := gd hM
     refine D.op rfl rfl (a_append (es := List.map eTerm z0.body) (ds := List.map eTerm ([z6.1])) (rs := List.map eTerm (z0.body ++ ([z6.1]))) ti23 rfl ti23 rfl ti25 rfl rfl (.inl rfl) rfl rfl (by decide) (by decide) (by simpa using od hg0) (.inl rfl) (tj.len (by first | rfl | simp)) (by simp) fun tk4 σd tk hFc nn2 => ?_)
     have lo7 := Fc.loTk lo4 nn2
     have dj1 := Dj.next (Dj.symm dj0) ti nn2
     have s16 := hFc.keep s14 (tok_cells tj s14)
     have s17 := hFc.keep s15 (tok_cells tj s15)
     have s18 := hFc.keep s13 (tok_cells tj s13)
     have tl := ti.keep hFc dj0
     have Fd := Fc.andThen hFc lo4
     refine D.op rfl rfl (a_fieldPtr ti27 rfl rfl rfl (by decide) (D.op rfl rfl (a_store (cs' := [(I z0.head.kind), (I z0.head.n), (.str z0.head.name), (LTerm z0.head.kids tk0), (LTerm (z0.body ++ ([z6.1])) tk4)]) ti23 rfl rfl s17 rfl (nb rfl) rfl rfl fun σe s19 hFd => ?_)))
     have s1a := hFd.keep s16 (m1 ne5)
     have s1b := hFd.keep s18 (m1 ne3)
     have tm := tl.keep hFd (not1 (tok_cells tl s17))
     have tn := tk.keep hFd (not1 (tok_cells tk s17))
     have Fe := Fd.andThen hFd lo5
     refine D.done ?_
     exact hJ0 z6.2 z0.head.kind z0.head.n z0.head.name z0.head.kids (z0.body ++ ([z6.1])) tk0 tk4 _ _ Fe rfl rfl s1b s1a s19 (tn.len (by first | rfl | simp)) lo7 hM
   · have hM := cF hb1 hM
     refine SW.seqR fun K7 hK7 => it rfl rfl rfl <| sn rfl <| R.done (hK7 _ _ (SW.cond rfl (fun hb2 => ?_) (fun hb2 => ?_)))
     · have hM := cT hb2 hM
       refine SW.block <| SW.loop <| LW.ind (I := fun n3 env1 σf => ∃ (v0 : List STerm) (tk5 : Tk), Fr σ_0 σf [a_0] ∧ env1.get 4 = some (.ptr a1 0) ∧ env1.get 5 = some (.ptr a2 0) ∧ σf a1 = some (.cells [(I 0), (I 0), (.str (⟨#[]⟩ : ByteArray)), (LTerm ([] : List STerm) .full), (LTerm ([] : List STerm) .full)]) ∧ σf a2 = some (.cells [(I z0.head.kind), (I z0.head.n), (.str z0.head.name), (LTerm z0.head.kids tk0), (LTerm v0 tk5)]) ∧ σf a_0 = some (.cells [(LU o0c0_0 tko0c0_0), (I z1.2)]) ∧ TokOk σf tk0 z0.head.kids.length 4 ∧ TokOk σf tk5 v0.length 4 ∧ Lo σ_0 [a_0] (tkNames tk5) ∧ Dj tk0 tk5 ∧ L_s_l4Mutate_1 f z0 J0 z1 n3 v0 = some r) ?_ f _ _ ⟨z0.body, tk1, F7, rfl, rfl, sp, sq, so, (t8.len (by first | rfl | simp)), (t9.len (by first | rfl | simp)), lo4, dj0, hM⟩
       rintro n3 env1 σf ⟨v0, tk5, Ff, h2, h3, s1c, s1d, s1e, to, tp, lo8, dj2, hM⟩
       cases n3 with
       | zero => (rw [L_s_l4Mutate_1] at hM; cases hM)
       | succ n3 =>
        rw [L_s_l4Mutate_1] at hM
        refine SW.seq <| SW.seqR fun K8 hK8 => fp ti27 rfl h3 rfl (by decide) <| ld ti23 rfl s1d rfl <| R.op rfl (a_lenImm ti23 rfl rfl (n := (v0.length : Int)) (by simp) (it rfl rfl rfl (R.done (hK8 _ _ (SW.cond rfl (fun hb3 => ?_) (fun hb3 => ?_))))))
        · have hM := cT hb3 hM
          refine SW.skip <| SW.block <| SW.draw' mixed [(0, false), (1, true), (2, true), (3, false), (4, false), (5, false), (6, false)] [(a2, wLod ⟨1, 24, false, (some (.imm 0 [] .full)), (.slice 25)⟩ 4 (LTerm v0 tk5))] [] (by kernel_rfl) (by kernel_rfl) (fun t ht => by simp at ht) <| D.op rfl rfl (a_fieldPtr ti27 rfl h3 rfl (by decide) (D.rd rfl rfl (wat_lod s1d rfl wat_nil) (lk_load ti23 rfl (wat_lod s1d rfl wat_nil) (.head _)) rfl (a_loadPtr ti23 rfl s1d rfl ?_)))
          obtain ⟨z2, hr6, hM⟩ := bd hM
          refine D.wk rfl rfl (wat_lod s1d rfl wat_nil) rfl (a_call (g := 51) rfl (oc rfl (oc rfl on)) (AC.go (r_s_l1Struct f (⟨#[116, 114, 117, 101]⟩ : ByteArray) ([] : List STerm) .full z2 hr6 _) (LeL.cons (Le.refl _) (LeL.cons (Le.empty' _ _ _ rfl) LeL.nil)) (StLe.refl _) fun v_ σg hp_ => ?_))
          obtain ⟨tk6, rfl, tq, nn3, hFe⟩ := hp_
          have lo9 := Lo.call Ff Lo.nil nn3
          have dj3 := Dj.call nn3 to (by simp)
          have dj4 := Dj.call nn3 tp (by simp)
          have s1f := hFe.keep s1c (by simp)
          have s1g := hFe.keep s1d (by simp)
          have s1h := hFe.keep s1e (by simp)
          have tr := to.keep hFe (by simp)
          have ts := tp.keep hFe (by simp)
          have Fg := Ff.andThen hFe Lo.nil
          refine ⟨(wat_lod s1g rfl wat_nil), (D.opLe rfl rfl rfl (a_buildSlice (v := (.imm 4 [(.agg [(I z2.kind), (I z2.n), (.str z2.name), (LTerm z2.kids tk6)])] .full)) (bsv_of (es := [(.agg [(I z2.kind), (I z2.n), (.str z2.name), (LTerm z2.kids tk6)])]) ti23 rfl ti25 (pc rfl pn) rfl ⟨rfl, by decide, by decide, rfl⟩) ⟨(LTerm ([z2]) .full), Le.elemsF (LeF.cons (Le.trans (Le.agg (LeL.cons (Le.refl _) (LeL.cons (Le.refl _) (LeL.cons (Le.refl _) (LeL.cons (Le.tok _ _ _) LeL.nil))))) (Le.of_eq (eTerm_eq z2).symm)) LeF.nil), ?_⟩))⟩
          obtain ⟨hg1, hM⟩ := gd hM
          refine D.op rfl rfl (a_append (es := List.map eTerm v0) (ds := List.map eTerm ([z2])) (rs := List.map eTerm (v0 ++ ([z2]))) ti23 rfl ti23 rfl ti25 rfl rfl (.inl rfl) rfl rfl (by decide) (by decide) (by simpa using od hg1) (.inl rfl) (ts.len (by first | rfl | simp)) (by simp) fun tk7 σh tt hFf nn4 => ?_)
          have loa := Fg.loTk lo8 nn4
          have dj5 := Dj.next (Dj.symm dj2) tr nn4
          have dj6 := Dj.next (Dj.symm dj4) tq nn4
          have s1i := hFf.keep s1f (tok_cells ts s1f)
          have s1j := hFf.keep s1g (tok_cells ts s1g)
          have s1k := hFf.keep s1h (tok_cells ts s1h)
          have tu := tr.keep hFf dj2
          have tv := tq.keep hFf dj4
          have Fh := Fg.andThen hFf lo8
          refine D.op rfl rfl (a_fieldPtr ti27 rfl h3 rfl (by decide) (D.op rfl rfl (a_store (cs' := [(I z0.head.kind), (I z0.head.n), (.str z0.head.name), (LTerm z0.head.kids tk0), (LTerm (v0 ++ ([z2])) tk7)]) ti23 rfl rfl s1j rfl (nb rfl) rfl rfl fun σi s1l hFg => ?_)))
          have s1m := hFg.keep s1i (m1 ne5)
          have s1n := hFg.keep s1k (m1 ne3)
          have tw := tu.keep hFg (not1 (tok_cells tu s1j))
          have tx := tv.keep hFg (not1 (tok_cells tv s1j))
          have ty := tt.keep hFg (not1 (tok_cells tt s1j))
          have Fi := Fh.andThen hFg lo5
          refine D.done ?_
          exact ⟨n3, Nat.lt_succ_self _, (v0 ++ ([z2])), tk7, Fi, h2, h3, s1m, s1l, s1n, (tw.len (by first | rfl | simp)), (ty.len (by first | rfl | simp)), loa, (Dj.symm dj5), hM⟩
        · have hM := cF hb3 hM
          refine SW.exit <| Qte <| Qte <| Qbx ?_
          exact hJ0 z1.2 z0.head.kind z0.head.n z0.head.name z0.head.kids v0 tk0 tk5 _ _ Ff h2 h3 s1e s1c s1d (tp.len (by first | rfl | simp)) lo8 hM
     · have hM := cF hb2 hM
       refine SW.seqR fun K9 hK9 => it rfl rfl rfl <| sn rfl <| R.done (hK9 _ _ (SW.cond rfl (fun hb4 => ?_) (fun hb4 => ?_)))
       · have hM := cT hb4 hM
         refine SW.region <| mv rfl <| R.op rfl (a_buildSlice (v := (LS ([(⟨#[116, 114, 117, 101]⟩ : ByteArray), (⟨#[105, 115]⟩ : ByteArray), (⟨#[61]⟩ : ByteArray), (⟨#[109, 111, 100]⟩ : ByteArray), (⟨#[113]⟩ : ByteArray)]) .full)) (bsv_of ti91 rfl ti9 (pc rfl (pc rfl (pc rfl (pc rfl (pc rfl pn))))) rfl ⟨rfl, by decide, by decide, rfl⟩) ?_)
         obtain ⟨z7, hr7, hM⟩ := bd hM
         refine cl rfl (oc rfl (oc rfl on)) (AC.go (r_s_l18Rd_of f ([(⟨#[116, 114, 117, 101]⟩ : ByteArray), (⟨#[105, 115]⟩ : ByteArray), (⟨#[61]⟩ : ByteArray), (⟨#[109, 111, 100]⟩ : ByteArray), (⟨#[113]⟩ : ByteArray)]) .full a_0 o0c0_0 tko0c0_0 z1.2 z7 hr7 _ so) (LeL.refl _) (StLe.refl _) fun v_ σj hp_ => ?_)
         obtain ⟨rfl, s1o, hFh⟩ := hp_
         have s1p := hFh.keep sp (m1 (Ne.symm ne1))
         have s1q := hFh.keep sq (m1 (Ne.symm ne3))
         have tz := t8.keep hFh (not1 (tok_cells t8 so))
         have t10 := t9.keep hFh (not1 (tok_cells t9 so))
         have Fj := F7.andThen hFh (Lo.mem fun j_ hj_ => hj_)
         refine fp ti27 rfl rfl rfl (by decide) <| fp ti25 rfl rfl rfl (by decide) <| R.op rfl (a_store (cs' := [(I z0.head.kind), (I z0.head.n), (.str z7.1), (LTerm z0.head.kids tk0), (LTerm z0.body tk1)]) ti9 rfl rfl s1q rfl (nb rfl) rfl rfl fun σk s1r hFi => ?_)
         have s1s := hFi.keep s1p (m1 ne5)
         have s1t := hFi.keep s1o (m1 ne3)
         have t11 := tz.keep hFi (not1 (tok_cells tz s1q))
         have t12 := t10.keep hFi (not1 (tok_cells t10 s1q))
         have Fk := Fj.andThen hFi lo5
         refine R.done ?_
         exact hJ0 z7.2 z0.head.kind z0.head.n z7.1 z0.head.kids z0.body tk0 tk1 _ _ Fk rfl rfl s1t s1s s1r (t12.len (by first | rfl | simp)) lo4 hM
       · have hM := cF hb4 hM
         refine SW.skip ?_
         exact hJ0 z1.2 z0.head.kind z0.head.n z0.head.name z0.head.kids z0.body tk0 tk1 _ _ F7 rfl rfl so sp sq (t9.len (by first | rfl | simp)) lo4 hM

def L_s_DrawRenumberClause_1 (f : Nat) (z0 : SClause × Int) (z1 : Int × Int) (J0 : List STerm → Option SClause) : Nat → Int → List STerm → Option SClause
 | 0, _, _ => none
 | n + 1, v0, v1 =>
 bif decide (v0 < (z0.1.body.length : Int)) then (
 bif decide (0 ≤ v0) then
 Option.bind (z0.1.body[(v0 : Int).toNat]?) fun x0 =>
 Option.bind (M_s_l3Shift f x0 z1.1) fun z2 =>
 bif decide (v1.length + ([z2]).length ≤ 4294967296) then
 L_s_DrawRenumberClause_1 f z0 z1 J0 n (IntKind.wrap .i64 (v0 + 1)) (v1 ++ ([z2]))
 else none
 else none
 ) else (
 J0 v1
 )

def M_s_DrawRenumberClause (f : Nat) (p_0 : (List Int)) : Option SClause :=
 Option.bind (M_s_l18Open f p_0) fun z3 =>
 Option.bind (M_s_l4Clause f z3.1 z3.2) fun z0 =>
 Option.bind (M_s_l18Rd_pick f 3 z3.1 z0.2) fun z1 =>
 Option.bind (M_s_l3Shift f z0.1.head z1.1) fun z4 =>
 jn (fun (v2 : List STerm) => (
 Option.bind (M_s_l4Mutate f (SClause.mk z4 v2) z3.1 z1.2) fun z5 =>
 some (z5.1)
 )) fun J0 => (
 L_s_DrawRenumberClause_1 f z0 z1 J0 f 0 ([] : List STerm)
 )

theorem r_s_DrawRenumberClause (f : Nat) (p_0 : (List Int)) (tk_0 : Tk) (r : SClause) (hM : M_s_DrawRenumberClause f p_0 = some r) (σ_0 : St) : AC Tryz.prog 6 [(LU p_0 tk_0)] σ_0 (fun v s => v = (.agg (cClause r)) ∧ s = σ_0) := by
 have F_0 := Fr.refl σ_0 []
 unfold M_s_DrawRenumberClause at hM
 refine AC.of_body Tryz.func6 rfl rfl (by rfl) (by simp [Tryz.f6]) <| SW.seqR fun K0 hK0 => alClause fun a0 σ0 n0 s0 hF0 => ?_
 have lo0 := F_0.lo1 n0
 have F0 := F_0.andThen hF0 Lo.nil
 refine R.done (hK0 _ _ (SW.seqR fun K1 hK1 => mv rfl ?_))
 obtain ⟨z3, hr0, hM⟩ := bd hM
 refine cl rfl (oc rfl on) (AC.go (r_s_l18Open f p_0 tk_0 z3 hr0 _) (LeL.refl _) (StLe.refl _) fun v_ σ1 hp_ => ?_)
 obtain ⟨a1, tk0, rfl, s1, nn0, hF1⟩ := hp_
 have lo2 := Lo.call F0 Lo.nil nn0
 have ne0 := ne_call nn0 s0 (by simp)
 have s2 := hF1.keep s0 (by simp)
 have F1 := F0.andThen hF1 Lo.nil
 refine sn rfl <| R.done (hK1 _ _ (SW.seqR fun K2 hK2 => mv rfl ?_))
 obtain ⟨z0, hr1, hM⟩ := bd hM
 refine cl rfl (oc rfl on) (AC.go (r_s_l4Clause f a1 z3.1 tk0 z3.2 z0 hr1 _ s1) (LeL.refl _) (StLe.refl _) fun v_ σ2 hp_ => ?_)
 obtain ⟨rfl, s3, hF2⟩ := hp_
 have s4 := hF2.keep s2 (m1 ne0)
 have F2 := F1.andThen hF2 lo2
 refine alClause fun a2 σ3 n1 s5 hF3 => ?_
 have ne1 := ne_new n1 s4
 have ne2 := ne_new n1 s3
 have lo3 := F2.lo1 n1
 have s6 := hF3.keep s4 (by simp)
 have s7 := hF3.keep s3 (by simp)
 have F3 := F2.andThen hF3 Lo.nil
 refine R.op rfl (a_store (cs' := (cClause z0.1)) ti27 rfl rfl s5 rfl (nb rfl) rfl rfl fun σ4 s8 hF4 => ?_)
 have s9 := hF4.keep s6 (m1 ne1)
 have sa := hF4.keep s7 (m1 ne2)
 have F4 := F3.andThen hF4 lo3
 refine R.done (hK2 _ _ (SW.seqR fun K3 hK3 => mv rfl ?_))
 obtain ⟨z1, hr2, hM⟩ := bd hM
 refine cl rfl (oc rfl (oc rfl on)) (AC.go (r_s_l18Rd_pick f 3 a1 z3.1 tk0 z0.2 z1 hr2 _ sa) (LeL.refl _) (StLe.refl _) fun v_ σ5 hp_ => ?_)
 obtain ⟨rfl, sb, hF5⟩ := hp_
 have sc := hF5.keep s9 (m1 ne0)
 have sd := hF5.keep s8 (m1 (Ne.symm ne2))
 have F5 := F4.andThen hF5 lo2
 refine sn rfl <| R.done (hK3 _ _ (SW.seqR fun K4 hK4 => fp ti27 rfl rfl rfl (by decide) (ld (v := (.agg (cTerm z0.1.head))) ti25 rfl sd rfl (mv rfl ?_))))
 obtain ⟨z4, hr3, hM⟩ := bd hM
 refine cp (r_s_l3Shift f z0.1.head z1.1 z4 hr3 _) rfl (oc rfl (oc rfl on)) (LeL.refl _) <| R.opLe rfl (a_build (cs := [(I z4.kind), (I z4.n), (.str z4.name), (LTerm z4.kids .no), (.imm 0 [] .full)]) ti27 rfl rfl (pc rfl pn) rfl ⟨(.agg [(I z4.kind), (I z4.n), (.str z4.name), (LTerm z4.kids .no), (LTerm ([] : List STerm) .full)]), Le.agg (LeL.cons (Le.refl _) (LeL.cons (Le.refl _) (LeL.cons (Le.refl _) (LeL.cons (Le.refl _) (LeL.cons (Le.empty' _ _ _ rfl) LeL.nil))))), (alClause fun a3 σ6 n2 se hF6 => ?_)⟩)
 have ne3 := ne_new n2 sc
 have ne4 := ne_new n2 sd
 have ne5 := ne_new n2 sb
 have lo4 := F5.lo1 n2
 have sf := hF6.keep sc (by simp)
 have sg := hF6.keep sd (by simp)
 have sh := hF6.keep sb (by simp)
 have F6 := F5.andThen hF6 Lo.nil
 refine R.op rfl (a_store (cs' := [(I z4.kind), (I z4.n), (.str z4.name), (LTerm z4.kids .no), (LTerm ([] : List STerm) .full)]) ti27 rfl rfl se rfl (nb rfl) rfl rfl fun σ7 sj hF7 => ?_)
 have sk := hF7.keep sf (m1 ne3)
 have sl := hF7.keep sg (m1 ne4)
 have sm := hF7.keep sh (m1 ne5)
 have F7 := F6.andThen hF7 lo4
 refine R.done (hK4 _ _ (SW.seqK fun K5 hK5 => ?_))
 obtain ⟨J0, eJ0, hM⟩ := jn_elim hM
 have hJ0 : ∀ (v2 : List STerm) (tk1 : Tk) (env0 : Env) (σ8 : St), Fr σ_0 σ8 [] → env0.get 2 = some (.ptr a0 0) → env0.get 3 = some (.ptr a1 0) → env0.get 6 = some (.ptr a3 0) → σ8 a0 = some (.cells [(I 0), (I 0), (.str (⟨#[]⟩ : ByteArray)), (LTerm ([] : List STerm) .full), (LTerm ([] : List STerm) .full)]) → σ8 a2 = some (.cells (cClause z0.1)) → σ8 a1 = some (.cells [(LU z3.1 tk0), (I z1.2)]) → σ8 a3 = some (.cells [(I z4.kind), (I z4.n), (.str z4.name), (LTerm z4.kids .no), (LTerm v2 tk1)]) → TokOk σ8 tk1 v2.length 4 → Lo σ_0 [] (tkNames tk1) → J0 v2 = some r → K5 env0 σ8 := by
  intro v2 tk1 env0 σ8 F8 h0 h1 h2 so sp sq sr t0 lo5 hM
  subst eJ0
  refine hK5 _ _ <| SW.seqR fun K6 hK6 => mv h1 <| ld (v := (.agg [(I z4.kind), (I z4.n), (.str z4.name), (LTerm z4.kids .no), (LTerm v2 tk1)])) ti27 h2 sr rfl ?_
  obtain ⟨z5, hr4, hM⟩ := bd hM
  refine cl rfl (oc rfl (oc rfl on)) (AC.go (r_s_l4Mutate f (SClause.mk z4 v2) a1 z3.1 tk0 z1.2 z5 hr4 _ sq) (LeL.cons (Le.refl _) (LeL.cons (Le.agg (LeL.cons (Le.refl _) (LeL.cons (Le.refl _) (LeL.cons (Le.refl _) (LeL.cons (Le.refl _) (LeL.cons (Le.tok _ _ _) LeL.nil)))))) LeL.nil)) (StLe.refl _) fun v_ σ9 hp_ => ?_)
  obtain ⟨rfl, ss, hF8⟩ := hp_
  have st := hF8.keep so (m1 ne0)
  have su := hF8.keep sr (m1 (Ne.symm ne5))
  have t1 := t0.keep hF8 (not1 (tok_cells t0 sq))
  have F9 := F8.andThen hF8 lo2
  refine R.op rfl (a_store (cs' := (cClause z5.1)) ti27 h0 rfl st rfl (nb rfl) rfl rfl fun σa sv hF9 => ?_)
  have sw := hF9.keep su (m1 (Ne.symm ne3))
  have sx := hF9.keep ss (m1 (Ne.symm ne0))
  have t2 := t1.keep hF9 (not1 (tok_cells t1 st))
  have Fa := F9.andThen hF9 lo0
  refine R.done (hK6 _ _ (SW.ret ?_))
  obtain rfl := si hM
  exact ret_of (rcc ti27 h0 sv rfl rn) (.agg (cClause z5.1)) σ_0 (Le.refl _) Fa.back ⟨rfl, rfl⟩
 clear eJ0
 refine SW.seqR fun K7 hK7 => sn rfl <| R.done (hK7 _ _ (SW.block (SW.loop (LW.ind (I := fun n3 env1 σb => ∃ (v0 : Int) (v1 : List STerm) (tk2 : Tk), Fr σ_0 σb [] ∧ env1.get 2 = some (.ptr a0 0) ∧ env1.get 3 = some (.ptr a1 0) ∧ env1.get 4 = some (.ptr a2 0) ∧ env1.get 5 = some (I z1.1) ∧ env1.get 6 = some (.ptr a3 0) ∧ env1.get 7 = some (I v0) ∧ σb a0 = some (.cells [(I 0), (I 0), (.str (⟨#[]⟩ : ByteArray)), (LTerm ([] : List STerm) .full), (LTerm ([] : List STerm) .full)]) ∧ σb a2 = some (.cells (cClause z0.1)) ∧ σb a1 = some (.cells [(LU z3.1 tk0), (I z1.2)]) ∧ σb a3 = some (.cells [(I z4.kind), (I z4.n), (.str z4.name), (LTerm z4.kids .no), (LTerm v1 tk2)]) ∧ TokOk σb tk2 v1.length 4 ∧ Lo σ_0 [] (tkNames tk2) ∧ L_s_DrawRenumberClause_1 f z0 z1 J0 n3 v0 v1 = some r) ?_ f _ _ ⟨0, ([] : List STerm), .full, F7, rfl, rfl, rfl, rfl, rfl, rfl, sk, sl, sm, sj, trivial, Lo.full, hM⟩))))
 rintro n3 env1 σb ⟨v0, v1, tk2, Fb, h3, h4, h5, h6, h7, h8, sy, sz, s10, s11, t3, lo6, hM⟩
 cases n3 with
 | zero => (rw [L_s_DrawRenumberClause_1] at hM; cases hM)
 | succ n3 =>
  rw [L_s_DrawRenumberClause_1] at hM
  refine SW.seq <| SW.seqR fun K8 hK8 => mv h8 <| fp ti27 rfl h5 rfl (by decide) <| ld ti23 rfl sz rfl <| R.op rfl (a_lenImm ti23 rfl rfl (n := (z0.1.body.length : Int)) (by simp) (it rfl rfl rfl (R.done (hK8 _ _ (SW.cond rfl (fun hb0 => ?_) (fun hb0 => ?_))))))
  · have hM := cT hb0 hM
    refine SW.skip <| SW.seq <| SW.block <| SW.draw' mixed [(0, false), (2, false), (4, false), (7, false), (1, true), (3, false), (5, false), (6, false), (8, true), (9, false), (10, false), (11, false), (12, false)] [(a3, wLod ⟨1, 24, false, (some (.imm 0 [] .full)), (.slice 25)⟩ 4 (LTerm v1 tk2))] [] (by kernel_rfl) (by kernel_rfl) (fun t ht => by simp at ht) <| D.op rfl rfl (a_fieldPtr ti27 rfl h7 rfl (by decide) (D.op rfl rfl (a_fieldPtr ti27 rfl h5 rfl (by decide) (D.op rfl rfl (a_move h8 (D.op rfl rfl (a_move h6 (D.rd rfl rfl (wat_lod s11 rfl wat_nil) (lk_load ti23 rfl (wat_lod s11 rfl wat_nil) (.head _)) rfl (a_loadPtr ti23 rfl s11 rfl (D.op rfl rfl (a_loadPtr ti23 rfl sz rfl ?_)))))))))))
    obtain ⟨hg0, hM⟩ := gd hM
    obtain ⟨x0, hx0, hM⟩ := bd hM
    refine D.op rfl rfl (a_idxImm (f := eTerm) (xs := z0.1.body) (n := v0) (e := x0) (v := (.agg (cTerm x0))) ti23 rfl ti25 rfl rfl rfl (od hg0) hx0 (eTerm_eq x0) (D.op rfl rfl (a_loadIptr (v := (.agg (cTerm x0))) ti25 rfl rfl ?_)))
    obtain ⟨z2, hr5, hM⟩ := bd hM
    refine D.wk rfl rfl (wat_lod s11 rfl wat_nil) rfl (a_call (g := 23) rfl (oc rfl (oc rfl on)) (AC.goP (r_s_l3Shift f x0 z1.1 z2 hr5 _) (LeL.refl _) (⟨(wat_lod s11 rfl wat_nil), (D.op rfl rfl (a_buildSlice (v := (LTerm ([z2]) .full)) (bsv_of' (es := [(.agg (cTerm z2))]) ti23 rfl ti25 (pc rfl pn) rfl ⟨rfl, by decide, by decide, rfl⟩ (by simp only [List.map_cons, List.map_nil, eTerm_eq])) ?_))⟩)))
    obtain ⟨hg1, hM⟩ := gd hM
    refine D.op rfl rfl (a_append (es := List.map eTerm v1) (ds := List.map eTerm ([z2])) (rs := List.map eTerm (v1 ++ ([z2]))) ti23 rfl ti23 rfl ti25 rfl rfl (.inl rfl) rfl rfl (by decide) (by decide) (by simpa using od hg1) (.inl rfl) (t3.len (by first | rfl | simp)) (by simp) fun tk3 σc t4 hFa nn1 => ?_)
    have lo7 := Fb.loTk lo6 nn1
    have s12 := hFa.keep sy (tok_cells t3 sy)
    have s13 := hFa.keep sz (tok_cells t3 sz)
    have s14 := hFa.keep s10 (tok_cells t3 s10)
    have s15 := hFa.keep s11 (tok_cells t3 s11)
    have Fc := Fb.andThen hFa lo6
    refine D.op rfl rfl (a_fieldPtr ti27 rfl h7 rfl (by decide) (D.op rfl rfl (a_store (cs' := [(I z4.kind), (I z4.n), (.str z4.name), (LTerm z4.kids .no), (LTerm (v1 ++ ([z2])) tk3)]) ti23 rfl rfl s15 rfl (nb rfl) rfl rfl fun σd s16 hFb => ?_)))
    have s17 := hFb.keep s12 (m1 ne3)
    have s18 := hFb.keep s13 (m1 ne4)
    have s19 := hFb.keep s14 (m1 ne5)
    have t5 := t4.keep hFb (not1 (tok_cells t4 s15))
    have Fd := Fc.andThen hFb lo4
    refine D.done <| SW.region <| mv h8 <| it rfl rfl rfl <| sn rfl <| R.done ?_
    exact ⟨n3, Nat.lt_succ_self _, (IntKind.wrap .i64 (v0 + 1)), (v1 ++ ([z2])), tk3, Fd, h3, h4, h5, h6, h7, rfl, s17, s18, s19, s16, (t5.len (by first | rfl | simp)), lo7, hM⟩
  · have hM := cF hb0 hM
    refine SW.exit <| Qte <| Qte <| Qbx ?_
    exact hJ0 v1 tk2 _ _ Fb h3 h4 h7 sy sz s10 s11 (t3.len (by first | rfl | simp)) lo6 hM

def M_i_within (f : Nat) (p_0 : Int) (p_1 : Int) (p_2 : Int) : Option Bool :=
 jn (fun (v0 : Bool) => (
 some (v0)
 )) fun J0 => (
 bif decide (p_1 ≤ p_0) then (
 J0 (decide (p_0 ≤ p_2))
 ) else (
 J0 false
 )
 )

theorem r_i_within (f : Nat) (p_0 : Int) (p_1 : Int) (p_2 : Int) (r : Bool) (hM : M_i_within f p_0 p_1 p_2 = some r) (σ_0 : St) : AC Tryz.prog 36 [(I p_0), (I p_1), (I p_2)] σ_0 (fun v s => v = (.bool r) ∧ s = σ_0) := by
 have F_0 := Fr.refl σ_0 []
 unfold M_i_within at hM
 refine AC.of_body Tryz.func36 rfl rfl (by rfl) (by simp [Tryz.f36]) <| SW.seqR fun K0 hK0 => sn rfl <| R.done (hK0 _ _ (SW.seqK fun K1 hK1 => ?_))
 obtain ⟨J0, eJ0, hM⟩ := jn_elim hM
 have hJ0 : ∀ (v0 : Bool) (env0 : Env) (σ0 : St), Fr σ_0 σ0 [] → env0.get 6 = some (.bool v0) → J0 v0 = some r → K1 env0 σ0 := by
  intro v0 env0 σ0 F0 h0 hM
  subst eJ0
  refine hK1 _ _ <| SW.ret ?_
  obtain rfl := si hM
  exact ret_of (rc h0 rn) (.bool v0) σ_0 (Le.refl _) F0.back ⟨rfl, rfl⟩
 clear eJ0
 refine SW.region <| mv rfl <| mv rfl <| it rfl rfl rfl <| mv rfl ?_
 rcases bcase (decide (p_1 ≤ p_0)) with hb0 | hb0
 · have hM := cT hb0 hM
   refine R.go (decide (p_1 ≤ p_0)) rfl hb0 (a_move rfl (R.go (decide (p_1 ≤ p_0)) rfl hb0 (a_move rfl (R.go (decide (p_1 ≤ p_0)) rfl hb0 (a_int rfl rfl rfl (R.op rfl (a_pickT rfl hb0 rfl (sn rfl (R.done ?_)))))))))
   exact hJ0 (decide (p_0 ≤ p_2)) _ _ F_0 rfl hM
 · have hM := cF hb0 hM
   refine R.not (decide (p_1 ≤ p_0)) rfl hb0 <| R.not (decide (p_1 ≤ p_0)) rfl hb0 <| R.not (decide (p_1 ≤ p_0)) rfl hb0 <| R.op rfl (a_pickF rfl hb0 rfl (sn rfl (R.done ?_)))
   exact hJ0 false _ _ F_0 rfl hM

def L_i_isLetters_1 (p_0 : ByteArray) (J0 : Unit → Option Bool) : Nat → Int → Option Bool
 | 0, _ => none
 | n + 1, v0 =>
 bif decide (v0 < (p_0.size : Int)) then (
 jn (fun (v1 : Bool) => (
 bif v1 then (
 some (false)
 ) else (
 L_i_isLetters_1 p_0 J0 n (IntKind.wrap .i64 (v0 + 1))
 )
 )) fun J1 => (
 bif decide (0 ≤ v0) then
 Option.bind (p_0.data[(v0 : Int).toNat]?) fun x0 =>
 bif decide ((x0.toNat : Int) < 97) then (
 J1 true
 ) else (
 Option.bind (p_0.data[(v0 : Int).toNat]?) fun x1 =>
 J1 (decide (122 < (x1.toNat : Int)))
 )
 else none
 )
 ) else (
 J0 ()
 )

def M_i_isLetters (f : Nat) (p_0 : ByteArray) : Option Bool :=
 jn (fun (_ : Unit) => (
 Option.bind (M_i_within f (p_0.size : Int) 1 6) fun z0 =>
 some (z0)
 )) fun J0 => (
 L_i_isLetters_1 p_0 J0 f 0
 )

theorem r_i_isLetters (f : Nat) (p_0 : ByteArray) (r : Bool) (hM : M_i_isLetters f p_0 = some r) (σ_0 : St) : AC Tryz.prog 101 [(.str p_0)] σ_0 (fun v s => v = (.bool r) ∧ s = σ_0) := by
 have F_0 := Fr.refl σ_0 []
 unfold M_i_isLetters at hM
 refine AC.of_body Tryz.func101 rfl rfl (by rfl) (by simp [Tryz.f101]) <| SW.seqR fun K0 hK0 => sn rfl <| R.done (hK0 _ _ (SW.seqK fun K1 hK1 => ?_))
 obtain ⟨J0, eJ0, hM⟩ := jn_elim hM
 have hJ0 : ∀  (env0 : Env) (σ0 : St), Fr σ_0 σ0 [] → env0.get 0 = some (.str p_0) → J0 () = some r → K1 env0 σ0 := by
  intro env0 σ0 F0 h0 hM
  subst eJ0
  refine hK1 _ _ <| SW.seqR fun K2 hK2 => mv h0 <| R.op rfl (a_lenStr ti9 rfl rfl ?_)
  obtain ⟨z0, hr0, hM⟩ := bd hM
  refine cp (r_i_within f (p_0.size : Int) 1 6 z0 hr0 _) rfl (oc rfl (oc rfl (oc rfl on))) (LeL.refl _) <| sn rfl <| R.done (hK2 _ _ (SW.ret ?_))
  obtain rfl := si hM
  exact ret_of (rc rfl rn) (.bool z0) σ_0 (Le.refl _) F0.back ⟨rfl, rfl⟩
 clear eJ0
 refine SW.seqR fun K3 hK3 => mv rfl <| R.op rfl (a_lenStr ti9 rfl rfl (mv rfl (R.done (hK3 _ _ (SW.block (SW.loop (LW.ind (I := fun n0 env1 σ1 => ∃ (v0 : Int), Fr σ_0 σ1 [] ∧ env1.get 0 = some (.str p_0) ∧ env1.get 5 = some (I (p_0.size : Int)) ∧ env1.get 6 = some (I v0) ∧ L_i_isLetters_1 p_0 J0 n0 v0 = some r) ?_ f _ _ ⟨0, F_0, rfl, rfl, rfl, hM⟩)))))))
 rintro n0 env1 σ1 ⟨v0, F1, h1, h2, h3, hM⟩
 cases n0 with
 | zero => (rw [L_i_isLetters_1] at hM; cases hM)
 | succ n0 =>
  rw [L_i_isLetters_1] at hM
  refine SW.seqR fun K4 hK4 => it h3 h2 rfl <| R.done (hK4 _ _ (SW.seq (SW.cond rfl (fun hb0 => ?_) (fun hb0 => ?_))))
  · have hM := cT hb0 hM
    refine SW.skip <| SW.seq <| SW.block <| SW.seqR fun K5 hK5 => mv h3 <| sn rfl <| R.done (hK5 _ _ (SW.seqK fun K6 hK6 => ?_))
    obtain ⟨J1, eJ1, hM⟩ := jn_elim hM
    have hJ1 : ∀ (v1 : Bool) (env2 : Env) (σ2 : St), Fr σ_0 σ2 [] → env2.get 0 = some (.str p_0) → env2.get 5 = some (I (p_0.size : Int)) → env2.get 6 = some (I v0) → env2.get 18 = some (.bool v1) → J1 v1 = some r → K6 env2 σ2 := by
     intro v1 env2 σ2 F2 h4 h5 h6 h7 hM
     subst eJ1
     refine hK6 _ _ <| SW.cond h7 (fun hb1 => ?_) (fun hb1 => ?_)
     · have hM := cT hb1 hM
       refine SW.seqR fun K7 hK7 => sn rfl <| R.done (hK7 _ _ (SW.ret (Qb (Qt (Qt (Qb (Qt ?_)))))))
       obtain rfl := si hM
       exact ret_of (rc rfl rn) (.bool false) σ_0 (Le.refl _) F2.back ⟨rfl, rfl⟩
     · have hM := cF hb1 hM
       refine SW.skip <| SW.region <| it h6 rfl rfl <| mv rfl <| R.done ?_
       exact ⟨n0, Nat.lt_succ_self _, (IntKind.wrap .i64 (v0 + 1)), F2, h4, h5, rfl, hM⟩
    clear eJ1
    refine SW.region <| mv h1 <| mv rfl ?_
    obtain ⟨hg0, hM⟩ := gd hM
    obtain ⟨x0, hx0, hM⟩ := bd hM
    refine R.op rfl (a_idxStr (n := v0) (b := x0) ti9 rfl rfl rfl (od hg0) hx0 (it rfl rfl rfl (mv rfl ?_)))
    rcases bcase (decide ((x0.toNat : Int) < 97)) with hb2 | hb2
    · have hM := cT hb2 hM
      refine R.notf (decide ((x0.toNat : Int) < 97)) rfl hb2 <| R.notf (decide ((x0.toNat : Int) < 97)) rfl hb2 <| R.notf (decide ((x0.toNat : Int) < 97)) rfl hb2 <| R.notf (decide ((x0.toNat : Int) < 97)) rfl hb2 <| R.op rfl (a_pickT rfl hb2 rfl (R.done ?_))
      exact hJ1 true _ _ F1 h1 h2 h3 rfl hM
    · have hM := cF hb2 hM
      refine R.gof (decide ((x0.toNat : Int) < 97)) rfl hb2 (a_move h1 (R.gof (decide ((x0.toNat : Int) < 97)) rfl hb2 (a_move rfl ?_)))
      obtain ⟨x1, hx1, hM⟩ := bd hM
      refine R.gof (decide ((x0.toNat : Int) < 97)) rfl hb2 (a_idxStr (n := v0) (b := x1) ti9 rfl rfl rfl (od hg0) hx1 (R.gof (decide ((x0.toNat : Int) < 97)) rfl hb2 (a_int rfl rfl rfl (R.op rfl (a_pickF rfl hb2 rfl (R.done ?_))))))
      exact hJ1 (decide (122 < (x1.toNat : Int))) _ _ F1 h1 h2 h3 rfl hM
  · have hM := cF hb0 hM
    refine SW.exit <| Qte <| Qte <| Qbx ?_
    exact hJ0  _ _ F1 h1 hM

def L_Index_string_1 (p_0 : (List ByteArray)) (p_1 : ByteArray) (J0 : Unit → Option Int) : Nat → Int → Option Int
 | 0, _ => none
 | n + 1, v0 =>
 bif decide (v0 < (p_0.length : Int)) then (
 bif decide (0 ≤ v0) then
 Option.bind (p_0[(v0 : Int).toNat]?) fun x0 =>
 bif decide (p_1 = x0) then (
 some (v0)
 ) else (
 L_Index_string_1 p_0 p_1 J0 n (IntKind.wrap .i64 (v0 + 1))
 )
 else none
 ) else (
 J0 ()
 )

def M_Index_string (f : Nat) (p_0 : (List ByteArray)) (p_1 : ByteArray) : Option Int :=
 jn (fun (_ : Unit) => (
 some ((-1))
 )) fun J0 => (
 L_Index_string_1 p_0 p_1 J0 f 0
 )

theorem r_Index_string (f : Nat) (p_0 : (List ByteArray)) (tk_0 : Tk) (p_1 : ByteArray) (r : Int) (hM : M_Index_string f p_0 p_1 = some r) (σ_0 : St) : AC Tryz.prog 165 [(LS p_0 tk_0), (.str p_1)] σ_0 (fun v s => v = (I r) ∧ s = σ_0) := by
 have F_0 := Fr.refl σ_0 []
 unfold M_Index_string at hM
 refine AC.of_body Tryz.func165 rfl rfl (by rfl) (by simp [Tryz.f165]) <| SW.seqR fun K0 hK0 => sn rfl <| R.done (hK0 _ _ (SW.seqK fun K1 hK1 => ?_))
 obtain ⟨J0, eJ0, hM⟩ := jn_elim hM
 have hJ0 : ∀  (env0 : Env) (σ0 : St), Fr σ_0 σ0 [] → J0 () = some r → K1 env0 σ0 := by
  intro env0 σ0 F0 hM
  subst eJ0
  refine hK1 _ _ <| SW.seqR fun K2 hK2 => sn rfl <| R.done (hK2 _ _ (SW.ret ?_))
  obtain rfl := si hM
  exact ret_of (rc rfl rn) (I (-1)) σ_0 (Le.refl _) F0.back ⟨rfl, rfl⟩
 clear eJ0
 refine SW.seqR fun K3 hK3 => mv rfl <| R.op rfl (a_lenImm ti91 rfl rfl (n := (p_0.length : Int)) (by simp) (mv rfl (R.done (hK3 _ _ (SW.block (SW.loop (LW.ind (I := fun n0 env1 σ1 => ∃ (v0 : Int), Fr σ_0 σ1 [] ∧ env1.get 0 = some (LS p_0 tk_0) ∧ env1.get 1 = some (.str p_1) ∧ env1.get 7 = some (I (p_0.length : Int)) ∧ env1.get 8 = some (I v0) ∧ L_Index_string_1 p_0 p_1 J0 n0 v0 = some r) ?_ f _ _ ⟨0, F_0, rfl, rfl, rfl, rfl, hM⟩)))))))
 rintro n0 env1 σ1 ⟨v0, F1, h0, h1, h2, h3, hM⟩
 cases n0 with
 | zero => (rw [L_Index_string_1] at hM; cases hM)
 | succ n0 =>
  rw [L_Index_string_1] at hM
  refine SW.seqR fun K4 hK4 => it h3 h2 rfl <| R.done (hK4 _ _ (SW.seq (SW.cond rfl (fun hb0 => ?_) (fun hb0 => ?_))))
  · have hM := cT hb0 hM
    refine SW.skip <| SW.seq <| SW.block <| SW.seqR fun K5 hK5 => mv h3 <| sn rfl <| R.done (hK5 _ _ (SW.seqR fun K6 hK6 => mv h1 (mv h0 (mv rfl ?_))))
    obtain ⟨hg0, hM⟩ := gd hM
    obtain ⟨x0, hx0, hM⟩ := bd hM
    refine R.op rfl (a_idxImm (f := AV.str) (xs := p_0) (n := v0) (e := x0) (v := (.str x0)) ti91 rfl ti9 rfl rfl rfl (od hg0) hx0 rfl (li ti9 rfl rfl (sr rfl rfl rfl (R.done (hK6 _ _ (SW.cond rfl (fun hb1 => ?_) (fun hb1 => ?_)))))))
    · have hM := cT hb1 hM
      refine SW.seqR fun K7 hK7 => mv rfl <| sn rfl <| R.done (hK7 _ _ (SW.ret (Qb (Qt (Qt (Qb (Qt ?_)))))))
      obtain rfl := si hM
      exact ret_of (rc rfl rn) (I v0) σ_0 (Le.refl _) F1.back ⟨rfl, rfl⟩
    · have hM := cF hb1 hM
      refine SW.skip <| SW.region <| it h3 rfl rfl <| mv rfl <| R.done ?_
      exact ⟨n0, Nat.lt_succ_self _, (IntKind.wrap .i64 (v0 + 1)), F1, h0, h1, h2, rfl, hM⟩
  · have hM := cF hb0 hM
    refine SW.exit <| Qte <| Qte <| Qbx ?_
    exact hJ0  _ _ F1 hM

def M_Contains_string (f : Nat) (p_0 : (List ByteArray)) (p_1 : ByteArray) : Option Bool :=
 Option.bind (M_Index_string f p_0 p_1) fun z0 =>
 some (decide (0 ≤ z0))

theorem r_Contains_string (f : Nat) (p_0 : (List ByteArray)) (tk_0 : Tk) (p_1 : ByteArray) (r : Bool) (hM : M_Contains_string f p_0 p_1 = some r) (σ_0 : St) : AC Tryz.prog 158 [(LS p_0 tk_0), (.str p_1)] σ_0 (fun v s => v = (.bool r) ∧ s = σ_0) := by
 have F_0 := Fr.refl σ_0 []
 unfold M_Contains_string at hM
 refine AC.of_body Tryz.func158 rfl rfl (by rfl) (by simp [Tryz.f158]) <| SW.seqR fun K0 hK0 => sn rfl <| R.done (hK0 _ _ (SW.seqR fun K1 hK1 => mv rfl (mv rfl ?_)))
 obtain ⟨z0, hr0, hM⟩ := bd hM
 refine cp (r_Index_string f p_0 tk_0 p_1 z0 hr0 _) rfl (oc rfl (oc rfl on)) (LeL.refl _) <| it rfl rfl rfl <| sn rfl <| R.done (hK1 _ _ (SW.ret ?_))
 obtain rfl := si hM
 exact ret_of (rc rfl rn) (.bool (decide (0 ≤ z0))) σ_0 (Le.refl _) F_0.back ⟨rfl, rfl⟩

def M_i_symbols (f : Nat) : Option (List ByteArray) :=
 some ([(⟨#[43]⟩ : ByteArray), (⟨#[45]⟩ : ByteArray), (⟨#[42]⟩ : ByteArray), (⟨#[47, 47]⟩ : ByteArray), (⟨#[61]⟩ : ByteArray), (⟨#[92, 61]⟩ : ByteArray), (⟨#[61, 61]⟩ : ByteArray), (⟨#[60]⟩ : ByteArray), (⟨#[62]⟩ : ByteArray), (⟨#[61, 60]⟩ : ByteArray), (⟨#[62, 61]⟩ : ByteArray), (⟨#[61, 58, 61]⟩ : ByteArray), (⟨#[46]⟩ : ByteArray), (⟨#[91, 93]⟩ : ByteArray), (⟨#[33]⟩ : ByteArray)])

theorem r_i_symbols (f : Nat) (r : (List ByteArray)) (hM : M_i_symbols f = some r) (σ_0 : St) : AC Tryz.prog 159 [] σ_0 (fun v s => v = (LS r .full) ∧ s = σ_0) := by
 have F_0 := Fr.refl σ_0 []
 unfold M_i_symbols at hM
 refine AC.of_body Tryz.func159 rfl rfl (by rfl) (by simp [Tryz.f159]) <| SW.seqR fun K0 hK0 => R.opLe rfl (a_assign (v := (.imm 0 [] .full)) rfl ⟨(LS ([] : List ByteArray) .full), Le.empty' _ _ _ rfl, (R.done (hK0 _ _ (SW.seqR fun K1 hK1 => R.op rfl (a_buildSlice (v := (LS ([(⟨#[43]⟩ : ByteArray), (⟨#[45]⟩ : ByteArray), (⟨#[42]⟩ : ByteArray), (⟨#[47, 47]⟩ : ByteArray), (⟨#[61]⟩ : ByteArray), (⟨#[92, 61]⟩ : ByteArray), (⟨#[61, 61]⟩ : ByteArray), (⟨#[60]⟩ : ByteArray), (⟨#[62]⟩ : ByteArray), (⟨#[61, 60]⟩ : ByteArray), (⟨#[62, 61]⟩ : ByteArray), (⟨#[61, 58, 61]⟩ : ByteArray), (⟨#[46]⟩ : ByteArray), (⟨#[91, 93]⟩ : ByteArray), (⟨#[33]⟩ : ByteArray)]) .full)) (bsv_of ti91 rfl ti9 (pc rfl (pc rfl (pc rfl (pc rfl (pc rfl (pc rfl (pc rfl (pc rfl (pc rfl (pc rfl (pc rfl (pc rfl (pc rfl (pc rfl (pc rfl pn))))))))))))))) rfl ⟨rfl, by decide, by decide, rfl⟩) (sn rfl (R.done (hK1 _ _ (SW.ret ?_))))))))⟩)
 obtain rfl := si hM
 exact ret_of (rc rfl rn) (LS ([(⟨#[43]⟩ : ByteArray), (⟨#[45]⟩ : ByteArray), (⟨#[42]⟩ : ByteArray), (⟨#[47, 47]⟩ : ByteArray), (⟨#[61]⟩ : ByteArray), (⟨#[92, 61]⟩ : ByteArray), (⟨#[61, 61]⟩ : ByteArray), (⟨#[60]⟩ : ByteArray), (⟨#[62]⟩ : ByteArray), (⟨#[61, 60]⟩ : ByteArray), (⟨#[62, 61]⟩ : ByteArray), (⟨#[61, 58, 61]⟩ : ByteArray), (⟨#[46]⟩ : ByteArray), (⟨#[91, 93]⟩ : ByteArray), (⟨#[33]⟩ : ByteArray)]) .full) σ_0 (Le.refl _) F_0.back ⟨rfl, rfl⟩

def M_i_NameValid (f : Nat) (p_0 : ByteArray) : Option Bool :=
 jn (fun (v0 : Bool) => (
 some (v0)
 )) fun J0 => (
 Option.bind (M_i_isLetters f p_0) fun z0 =>
 bif z0 then (
 J0 true
 ) else (
 Option.bind (M_i_symbols f) fun z1 =>
 Option.bind (M_Contains_string f z1 p_0) fun z2 =>
 J0 z2
 )
 )

theorem r_i_NameValid (f : Nat) (p_0 : ByteArray) (r : Bool) (hM : M_i_NameValid f p_0 = some r) (σ_0 : St) : AC Tryz.prog 138 [(.str p_0)] σ_0 (fun v s => v = (.bool r) ∧ s = σ_0) := by
 have F_0 := Fr.refl σ_0 []
 unfold M_i_NameValid at hM
 refine AC.of_body Tryz.func138 rfl rfl (by rfl) (by simp [Tryz.f138]) <| SW.seqR fun K0 hK0 => sn rfl <| R.done (hK0 _ _ (SW.seqK fun K1 hK1 => ?_))
 obtain ⟨J0, eJ0, hM⟩ := jn_elim hM
 have hJ0 : ∀ (v0 : Bool) (env0 : Env) (σ0 : St), Fr σ_0 σ0 [] → env0.get 2 = some (.bool v0) → J0 v0 = some r → K1 env0 σ0 := by
  intro v0 env0 σ0 F0 h0 hM
  subst eJ0
  refine hK1 _ _ <| SW.ret ?_
  obtain rfl := si hM
  exact ret_of (rc h0 rn) (.bool v0) σ_0 (Le.refl _) F0.back ⟨rfl, rfl⟩
 clear eJ0
 refine SW.region <| mv rfl ?_
 obtain ⟨z0, hr0, hM⟩ := bd hM
 refine cp (r_i_isLetters f p_0 z0 hr0 _) rfl (oc rfl on) (LeL.refl _) <| mv rfl ?_
 rcases bcase z0 with hb0 | hb0
 · have hM := cT hb0 hM
   refine R.notf z0 rfl hb0 <| R.notf z0 rfl hb0 <| R.notf z0 rfl hb0 <| R.op rfl (a_pickT rfl hb0 rfl (sn rfl (R.done ?_)))
   exact hJ0 true _ _ F_0 rfl hM
 · have hM := cF hb0 hM
   obtain ⟨z1, hr1, hM⟩ := bd hM
   refine R.gof z0 rfl hb0 (a_call (g := 159) rfl on (AC.goP (r_i_symbols f z1 hr1 _) (LeL.refl _) (R.gof z0 rfl hb0 (a_move rfl ?_))))
   obtain ⟨z2, hr2, hM⟩ := bd hM
   refine R.gof z0 rfl hb0 (a_call (g := 158) rfl (oc rfl (oc rfl on)) (AC.goP (r_Contains_string f z1 .full p_0 z2 hr2 _) (LeL.refl _) (R.op rfl (a_pickF rfl hb0 rfl (sn rfl (R.done ?_))))))
   exact hJ0 z2 _ _ F_0 rfl hM

end Go.Am
