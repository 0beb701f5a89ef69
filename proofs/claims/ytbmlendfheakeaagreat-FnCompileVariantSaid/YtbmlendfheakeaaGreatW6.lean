/-
  Walks of functions, printed by wip/py/gen2.py.
-/
import Derived.Test.YtbmlendfheakeaaGreatW5
namespace Go.Am
open Go.Proofs
set_option maxRecDepth 100000
set_option linter.unusedVariables false

def M_i_coding_described (f : Nat) (p_1 : STerm) (o0c1_0 : Int) (o0c2_0 : List SInstr) (o1m_0 : List (Int × Int)) : Option (Int × List SInstr × List (Int × Int)) :=
 bif (p_1.kind == 2) then (
 Option.bind (M_i_coding_add f (SInstr.mk 6 p_1.n 0 (⟨#[]⟩ : ByteArray)) o0c1_0 o0c2_0 o1m_0) fun z0 =>
 some (o0c1_0, z0, o1m_0)
 ) else (
 bif (tfind p_1.n o1m_0).isSome then (
 Option.bind (M_i_coding_add f (SInstr.mk 5 ((tfind p_1.n o1m_0).getD 0) 0 (⟨#[]⟩ : ByteArray)) o0c1_0 o0c2_0 o1m_0) fun z1 =>
 some (o0c1_0, z1, o1m_0)
 ) else (
 Option.bind (M_i_coding_slot f o0c1_0 o0c2_0 o1m_0) fun z2 =>
 Option.bind (M_i_coding_add f (SInstr.mk 4 ((tfind p_1.n (tset p_1.n z2.1 o1m_0)).getD 0) 0 (⟨#[]⟩ : ByteArray)) z2.2 o0c2_0 (tset p_1.n z2.1 o1m_0)) fun z3 =>
 some (z2.2, z3, (tset p_1.n z2.1 o1m_0))
 )
 )

theorem r_i_coding_described (f : Nat) (p_1 : STerm) (a_0 : Nat) (o0c1_0 : Int) (o0c2_0 : List SInstr) (tko0c2_0 : Tk) (a_1 : Nat) (o1m_0 : List (Int × Int)) (r : Int × List SInstr × List (Int × Int)) (hM : M_i_coding_described f p_1 o0c1_0 o0c2_0 o1m_0 = some r) (σ_0 : St) (s_0 : σ_0 a_0 = some (.cells [(.mp a_1), (I o0c1_0), (LInstr o0c2_0 tko0c2_0)])) (s_1 : σ_0 a_1 = some (.map (List.map (fun e_ => ((AV.int .i64) e_.1, (AV.int .i64) e_.2)) o1m_0))) (to0c2_0 : TokOk σ_0 tko0c2_0 o0c2_0.length 4) (ne_0_1 : a_0 ≠ a_1) : AC Tryz.prog 108 [(.ptr a_0 0), (.agg (cTerm p_1))] σ_0 (fun v s => ∃ (tkr_0 : Tk), v = (.tup []) ∧ s a_0 = some (.cells [(.mp a_1), (I r.1), (LInstr r.2.1 tkr_0)]) ∧ s a_1 = some (.map (List.map (fun e_ => ((AV.int .i64) e_.1, (AV.int .i64) e_.2)) r.2.2)) ∧ TokOk s tkr_0 r.2.1.length 4 ∧ (∀ i ∈ tkNames tkr_0, i ∈ ([a_0] ++ [a_1] ++ tkNames tko0c2_0) ∨ σ_0 i = none) ∧ Fr σ_0 s ([a_0] ++ [a_1] ++ tkNames tko0c2_0)) := by
 have F_0 := Fr.refl σ_0 ([a_0] ++ [a_1] ++ tkNames tko0c2_0)
 unfold M_i_coding_described at hM
 refine AC.of_body Tryz.func108 rfl rfl (by rfl) (by simp [Tryz.f108]) <| SW.seqR fun K0 hK0 => R.op rfl (a_box (v := (.agg (cTerm p_1))) rfl rfl fun a0 σ0 n0 s0 hF0 => ?_)
 have ne0 := ne_new n0 s_0
 have ne1 := ne_new n0 s_1
 have lo0 := F_0.lo1 n0
 have s1 := hF0.keep s_0 (by simp)
 have s2 := hF0.keep s_1 (by simp)
 have t0 := to0c2_0.keep hF0 (by simp)
 have F0 := F_0.andThen hF0 Lo.nil
 refine R.done (hK0 _ _ (SW.seq (SW.seqR fun K1 hK1 => fp ti25 rfl rfl rfl (by decide) (ld ti3 rfl s0 rfl (it rfl rfl rfl (R.done (hK1 _ _ (SW.cond rfl (fun hb0 => ?_) (fun hb0 => ?_)))))))))
 · have hM := cT hb0 hM
   refine SW.seqR fun K2 hK2 => mv rfl <| fp ti25 rfl rfl rfl (by decide) <| ld ti3 rfl s0 rfl <| R.op rfl (a_build (cs := [(I 6), (I p_1.n), (I 0), (.str (⟨#[]⟩ : ByteArray))]) ti57 rfl rfl (pc rfl (pc rfl pn)) rfl ?_)
   obtain ⟨z0, hr0, hM⟩ := bd hM
   refine cl rfl (oc rfl (oc rfl on)) (AC.go (r_i_coding_add f (SInstr.mk 6 p_1.n 0 (⟨#[]⟩ : ByteArray)) a_0 o0c1_0 o0c2_0 tko0c2_0 a_1 o1m_0 z0 hr0 _ s1 s2 (t0.len (by first | rfl | simp)) ne_0_1) (LeL.refl _) (StLe.refl _) fun v_ σ1 hp_ => ?_)
   obtain ⟨tk0, rfl, s3, t1, nn0, hF1⟩ := hp_
   have lo2 := Lo.call F0 (Lo.app (Lo.mem fun j_ hj_ => (ml _ (ml _ hj_))) (Lo.mem fun j_ hj_ => (List.mem_append_right _ hj_))) nn0
   have s4 := hF1.keep s2 (mA (m1 (Ne.symm ne_0_1)) (tok_map t0 s2))
   have s5 := hF1.keep s0 (mA (m1 (Ne.symm ne0)) (tok_cells t0 s0))
   have F1 := F0.andThen hF1 (Lo.app (Lo.mem fun j_ hj_ => (ml _ (ml _ hj_))) (Lo.mem fun j_ hj_ => (List.mem_append_right _ hj_)))
   refine R.done (hK2 _ _ (SW.ret (Qt ?_)))
   obtain rfl := si hM
   exact ret_of rn (.tup []) _ (Le.refl _) (StLe.refl _) ⟨tk0, rfl, s3, s4, (t1.len (by first | rfl | simp)), lo2.nn, F1⟩
 · have hM := cF hb0 hM
   refine SW.skip <| SW.seq <| SW.seqK fun K3 hK3 => SW.draw' mixed [(0, false), (1, false), (2, false), (4, false), (3, false), (5, false), (6, false), (7, false), (8, false), (9, false), (10, false), (11, false)] [] [] (by kernel_rfl) (by kernel_rfl) (fun t ht => by simp at ht) <| D.op rfl rfl (a_move rfl (D.op rfl rfl (a_nilPtr rfl (D.op rfl rfl (a_fieldPtr ti134 rfl rfl rfl (by decide) (D.op rfl rfl (a_fieldPtr ti25 rfl rfl rfl (by decide) (D.op rfl rfl (a_loadPtr ti132 rfl s1 rfl (D.op rfl rfl (a_loadPtr ti3 rfl s0 rfl (D.op rfl rfl (a_lookupInt (ev := (AV.int .i64)) (k := p_1.n) (z := 0) (v := (I ((tfind p_1.n o1m_0).getD 0))) ti132 rfl ti3 rfl ti3 rfl rfl rfl s2 rfl (D.op rfl rfl (a_move rfl (D.op rfl rfl (a_extract rfl rfl (D.op rfl rfl (a_extract rfl rfl (D.op rfl rfl (a_assign rfl (D.op rfl rfl (a_assign rfl (D.done (hK3 _ _ ?_)))))))))))))))))))))))))
   refine SW.seqR fun K4 hK4 => mv rfl <| R.done (hK4 _ _ (SW.cond rfl (fun hb1 => ?_) (fun hb1 => ?_)))
   · have hM := cT hb1 hM
     refine SW.seqR fun K5 hK5 => mv rfl <| mv rfl <| R.op rfl (a_build (cs := [(I 5), (I ((tfind p_1.n o1m_0).getD 0)), (I 0), (.str (⟨#[]⟩ : ByteArray))]) ti57 rfl rfl (pc rfl (pc rfl pn)) rfl ?_)
     obtain ⟨z1, hr1, hM⟩ := bd hM
     refine cl rfl (oc rfl (oc rfl on)) (AC.go (r_i_coding_add f (SInstr.mk 5 ((tfind p_1.n o1m_0).getD 0) 0 (⟨#[]⟩ : ByteArray)) a_0 o0c1_0 o0c2_0 tko0c2_0 a_1 o1m_0 z1 hr1 _ s1 s2 (t0.len (by first | rfl | simp)) ne_0_1) (LeL.refl _) (StLe.refl _) fun v_ σ2 hp_ => ?_)
     obtain ⟨tk1, rfl, s6, t2, nn1, hF2⟩ := hp_
     have lo3 := Lo.call F0 (Lo.app (Lo.mem fun j_ hj_ => (ml _ (ml _ hj_))) (Lo.mem fun j_ hj_ => (List.mem_append_right _ hj_))) nn1
     have s7 := hF2.keep s2 (mA (m1 (Ne.symm ne_0_1)) (tok_map t0 s2))
     have F2 := F0.andThen hF2 (Lo.app (Lo.mem fun j_ hj_ => (ml _ (ml _ hj_))) (Lo.mem fun j_ hj_ => (List.mem_append_right _ hj_)))
     refine R.done (hK5 _ _ (SW.ret (Qt ?_)))
     obtain rfl := si hM
     exact ret_of rn (.tup []) _ (Le.refl _) (StLe.refl _) ⟨tk1, rfl, s6, s7, (t2.len (by first | rfl | simp)), lo3.nn, F2⟩
   · have hM := cF hb1 hM
     refine SW.skip <| SW.seqK fun K6 hK6 => SW.draw' mixed [(0, false), (1, false), (2, false), (4, false), (6, false), (3, true), (5, true), (7, true), (8, false)] [(a_0, wLod ⟨1, 8, false, (some .nilm), (.map 3 3)⟩ 0 (.mp a_1)), (a0, wLod ⟨1, 8, false, (some (.int .i64 0)), (.int .i64)⟩ 1 (I p_1.n))] [] (by kernel_rfl) (by kernel_rfl) (fun t ht => by simp at ht) <| D.op rfl rfl (a_move rfl (D.op rfl rfl (a_nilPtr rfl (D.op rfl rfl (a_fieldPtr ti134 rfl rfl rfl (by decide) (D.op rfl rfl (a_fieldPtr ti25 rfl rfl rfl (by decide) (D.op rfl rfl (a_move rfl (D.rd rfl rfl (wat_lod s1 rfl (wat_lod s0 rfl wat_nil)) (lk_load ti132 rfl (wat_lod s1 rfl (wat_lod s0 rfl wat_nil)) (.head _)) rfl (a_loadPtr ti132 rfl s1 rfl (D.rd rfl rfl (wat_lod s1 rfl (wat_lod s0 rfl wat_nil)) (lk_load ti3 rfl (wat_lod s1 rfl (wat_lod s0 rfl wat_nil)) (.tail _ (.head _))) rfl (a_loadPtr ti3 rfl s0 rfl ?_)))))))))))))
     obtain ⟨z2, hr2, hM⟩ := bd hM
     refine D.wk rfl rfl (wat_lod s1 rfl (wat_lod s0 rfl wat_nil)) rfl (a_call (g := 109) rfl (oc rfl on) (AC.go (r_i_coding_slot f a_0 o0c1_0 o0c2_0 tko0c2_0 a_1 o1m_0 z2 hr2 _ s1 s2 ne_0_1) (LeL.refl _) (StLe.refl _) fun v_ σ3 hp_ => ?_))
     obtain ⟨rfl, s8, hF3⟩ := hp_
     have s9 := hF3.keep s2 (m1 (Ne.symm ne_0_1))
     have sa := hF3.keep s0 (m1 (Ne.symm ne0))
     have t3 := t0.keep hF3 (not1 (tok_cells t0 s1))
     have F3 := F0.andThen hF3 (Lo.mem fun j_ hj_ => (ml _ (ml _ hj_)))
     refine ⟨(wat_lod s8 rfl (wat_lod sa rfl wat_nil)), (D.op rfl rfl (a_mapUpdate (v := (I z2.1)) (es' := (List.map (fun e_ => ((AV.int .i64) e_.1, (AV.int .i64) e_.2)) (tset p_1.n z2.1 o1m_0))) ti132 rfl ti3 rfl rfl rfl s9 rfl (keys_int _) (mset_int _) fun σ4 sb hF4 => ?_))⟩
     have sc := hF4.keep sa (m1 (Ne.symm ne1))
     have sd := hF4.keep s8 (m1 ne_0_1)
     have t4 := t3.keep hF4 (not1 (tok_map t3 s9))
     have F4 := F3.andThen hF4 (Lo.mem fun j_ hj_ => (ml _ (List.mem_append_right _ hj_)))
     refine D.done (hK6 _ _ (SW.draw' mixed [(0, false), (1, false), (2, false), (3, false), (5, false), (4, false), (6, false), (7, false), (8, false), (9, false)] [] [] (by kernel_rfl) (by kernel_rfl) (fun t ht => by simp at ht) (D.op rfl rfl (a_move rfl (D.op rfl rfl (a_move rfl (D.op rfl rfl (a_nilPtr rfl (D.op rfl rfl (a_fieldPtr ti134 rfl rfl rfl (by decide) (D.op rfl rfl (a_fieldPtr ti25 rfl rfl rfl (by decide) (D.op rfl rfl (a_loadPtr ti132 rfl sd rfl (D.op rfl rfl (a_loadPtr ti3 rfl sc rfl (D.op rfl rfl (a_lookupInt1 (ev := (AV.int .i64)) (k := p_1.n) (z := 0) (v := (I ((tfind p_1.n (tset p_1.n z2.1 o1m_0)).getD 0))) ti132 rfl ti3 rfl ti3 rfl rfl rfl sb rfl (D.op rfl rfl (a_build (cs := [(I 4), (I ((tfind p_1.n (tset p_1.n z2.1 o1m_0)).getD 0)), (I 0), (.str (⟨#[]⟩ : ByteArray))]) ti57 rfl rfl (pc rfl (pc rfl pn)) rfl ?_))))))))))))))))))))
     obtain ⟨z3, hr3, hM⟩ := bd hM
     refine D.op rfl rfl (a_call (g := 107) rfl (oc rfl (oc rfl on)) (AC.go (r_i_coding_add f (SInstr.mk 4 ((tfind p_1.n (tset p_1.n z2.1 o1m_0)).getD 0) 0 (⟨#[]⟩ : ByteArray)) a_0 z2.2 o0c2_0 tko0c2_0 a_1 (tset p_1.n z2.1 o1m_0) z3 hr3 _ sd sb (t4.len (by first | rfl | simp)) ne_0_1) (LeL.refl _) (StLe.refl _) fun v_ σ5 hp_ => ?_))
     obtain ⟨tk2, rfl, se, t5, nn2, hF5⟩ := hp_
     have lo4 := Lo.call F4 (Lo.app (Lo.mem fun j_ hj_ => (ml _ (ml _ hj_))) (Lo.mem fun j_ hj_ => (List.mem_append_right _ hj_))) nn2
     have sf := hF5.keep sc (mA (m1 (Ne.symm ne0)) (tok_cells t4 sc))
     have sg := hF5.keep sb (mA (m1 (Ne.symm ne_0_1)) (tok_map t4 sb))
     have F5 := F4.andThen hF5 (Lo.app (Lo.mem fun j_ hj_ => (ml _ (ml _ hj_))) (Lo.mem fun j_ hj_ => (List.mem_append_right _ hj_)))
     refine D.done ?_
     obtain rfl := si hM
     show retQ _ _ _ .normal _ _
     exact end_of rn (.tup []) _ (Le.refl _) (StLe.refl _) ⟨tk2, rfl, se, sg, (t5.len (by first | rfl | simp)), lo4.nn, F5⟩

def L_i_coding_head_2 (f : Nat) (x0 : Sleft) (J0 : List Sleft → List (Int × Int) → Int → List SInstr → Option (Int × List SInstr × List (Int × Int))) : Nat → List Sleft → Int → List (Int × Int) → Int → List SInstr → Option (Int × List SInstr × List (Int × Int))
 | 0, _, _, _, _, _ => none
 | n + 1, v0, v1, v2, v3, v4 =>
 bif decide (v1 < (x0.t.kids.length : Int)) then (
 jn (fun (v5 : List Sleft) (v6 : List (Int × Int)) (v7 : Int) (v8 : List SInstr) => (
 L_i_coding_head_2 f x0 J0 n v5 (IntKind.wrap .i64 (v1 + 1)) v6 v7 v8
 )) fun J1 => (
 bif decide (0 ≤ v1) then
 Option.bind (x0.t.kids[(v1 : Int).toNat]?) fun x1 =>
 bif (!(x1.kind == 3)) then (
 Option.bind (M_i_coding_described f x1 v3 v4 v2) fun z0 =>
 J1 v0 z0.2.2 z0.1 z0.2.1
 ) else (
 Option.bind (M_i_coding_slot f v3 v4 v2) fun z1 =>
 Option.bind (M_i_coding_add f (SInstr.mk 4 z1.1 0 (⟨#[]⟩ : ByteArray)) z1.2 v4 v2) fun z2 =>
 bif decide (v0.length + ([(Sleft.mk x1 z1.1)]).length ≤ 4294967296) then
 J1 (v0 ++ ([(Sleft.mk x1 z1.1)])) v2 z1.2 z2
 else none
 )
 else none
 )
 ) else (
 J0 v0 v2 v3 v4
 )

def L_i_coding_head_1 (f : Nat) : Nat → List Sleft → Int → List SInstr → List (Int × Int) → Option (Int × List SInstr × List (Int × Int))
 | 0, _, _, _, _ => none
 | n + 1, v9, va, vb, vc =>
 bif decide (0 < (v9.length : Int)) then (
 jn (fun (vd : List Sleft) (ve : Int) (vf : List SInstr) (vg : List (Int × Int)) => (
 L_i_coding_head_1 f n vd ve vf vg
 )) fun J2 => (
 Option.bind (v9[(0 : Int).toNat]?) fun x0 =>
 bif decide ((1 : Int).toNat ≤ v9.length) then
 Option.bind (M_i_coding_add f (SInstr.mk 3 (x0.t.kids.length : Int) x0.slot x0.t.name) va vb vc) fun z3 =>
 jn (fun (vh : List Sleft) (vi : List (Int × Int)) (vj : Int) (vk : List SInstr) => (
 J2 vh vj vk vi
 )) fun J0 => (
 L_i_coding_head_2 f x0 J0 f (List.drop (1 : Int).toNat v9) 0 vc va z3
 )
 else none
 )
 ) else (
 some (va, vb, vc)
 )

def L_i_coding_head_3 (f : Nat) (p_1 : (List STerm)) (o0c1_0 : Int) (J3 : List Sleft → List SInstr → List (Int × Int) → Option (Int × List SInstr × List (Int × Int))) : Nat → List Sleft → Int → List SInstr → List (Int × Int) → Option (Int × List SInstr × List (Int × Int))
 | 0, _, _, _, _ => none
 | n + 1, vl, vm, vn, vo =>
 bif decide (vm < (p_1.length : Int)) then (
 jn (fun (vp : List Sleft) (vq : List SInstr) (vr : List (Int × Int)) => (
 L_i_coding_head_3 f p_1 o0c1_0 J3 n vp (IntKind.wrap .i64 (vm + 1)) vq vr
 )) fun J4 => (
 bif decide (0 ≤ vm) then
 Option.bind (p_1[(vm : Int).toNat]?) fun x2 =>
 bif (x2.kind == 2) then (
 Option.bind (M_i_coding_add f (SInstr.mk 2 x2.n vm (⟨#[]⟩ : ByteArray)) o0c1_0 vn vo) fun z4 =>
 J4 vl z4 vo
 ) else (
 bif (x2.kind == 1) then (
 bif (tfind x2.n vo).isSome then (
 Option.bind (M_i_coding_add f (SInstr.mk 1 ((tfind x2.n vo).getD 0) vm (⟨#[]⟩ : ByteArray)) o0c1_0 vn vo) fun z5 =>
 J4 vl z5 vo
 ) else (
 J4 vl vn (tset x2.n vm vo)
 )
 ) else (
 bif decide (vl.length + ([(Sleft.mk x2 vm)]).length ≤ 4294967296) then
 J4 (vl ++ ([(Sleft.mk x2 vm)])) vn vo
 else none
 )
 )
 else none
 )
 ) else (
 J3 vl vn vo
 )

def M_i_coding_head (f : Nat) (p_1 : (List STerm)) (o0c1_0 : Int) (o0c2_0 : List SInstr) (o1m_0 : List (Int × Int)) : Option (Int × List SInstr × List (Int × Int)) :=
 jn (fun (vs : List Sleft) (vt : List SInstr) (vu : List (Int × Int)) => (
 L_i_coding_head_1 f f vs o0c1_0 vt vu
 )) fun J3 => (
 L_i_coding_head_3 f p_1 o0c1_0 J3 f ([] : List Sleft) 0 o0c2_0 o1m_0
 )

theorem r_i_coding_head (f : Nat) (p_1 : (List STerm)) (tk_1 : Tk) (a_0 : Nat) (o0c1_0 : Int) (o0c2_0 : List SInstr) (tko0c2_0 : Tk) (a_1 : Nat) (o1m_0 : List (Int × Int)) (r : Int × List SInstr × List (Int × Int)) (hM : M_i_coding_head f p_1 o0c1_0 o0c2_0 o1m_0 = some r) (σ_0 : St) (s_0 : σ_0 a_0 = some (.cells [(.mp a_1), (I o0c1_0), (LInstr o0c2_0 tko0c2_0)])) (s_1 : σ_0 a_1 = some (.map (List.map (fun e_ => ((AV.int .i64) e_.1, (AV.int .i64) e_.2)) o1m_0))) (to0c2_0 : TokOk σ_0 tko0c2_0 o0c2_0.length 4) (ne_0_1 : a_0 ≠ a_1) : AC Tryz.prog 68 [(.ptr a_0 0), (LTerm p_1 tk_1)] σ_0 (fun v s => ∃ (tkr_0 : Tk), v = (.tup []) ∧ s a_0 = some (.cells [(.mp a_1), (I r.1), (LInstr r.2.1 tkr_0)]) ∧ s a_1 = some (.map (List.map (fun e_ => ((AV.int .i64) e_.1, (AV.int .i64) e_.2)) r.2.2)) ∧ TokOk s tkr_0 r.2.1.length 4 ∧ (∀ i ∈ tkNames tkr_0, i ∈ ([a_0] ++ [a_1] ++ tkNames tko0c2_0) ∨ σ_0 i = none) ∧ Fr σ_0 s ([a_0] ++ [a_1] ++ tkNames tko0c2_0)) := by
 have F_0 := Fr.refl σ_0 ([a_0] ++ [a_1] ++ tkNames tko0c2_0)
 unfold M_i_coding_head at hM
 refine AC.of_body Tryz.func68 rfl rfl (by rfl) (by simp [Tryz.f68]) <| SW.seqR fun K0 hK0 => R.opLe rfl (a_assign (v := (.imm 0 [] .full)) rfl ⟨(Lleft ([] : List Sleft) .full), Le.empty' _ _ _ rfl, (R.done (hK0 _ _ (SW.seqK fun K1 hK1 => ?_)))⟩)
 obtain ⟨J3, eJ0, hM⟩ := jn_elim hM
 have hJ0 : ∀ (vs : List Sleft) (vt : List SInstr) (vu : List (Int × Int)) (tk0 : Tk) (tk1 : Tk) (env0 : Env) (σ0 : St), Fr σ_0 σ0 ([a_0] ++ [a_1] ++ tkNames tko0c2_0) → env0.get 0 = some (.ptr a_0 0) → env0.get 4 = some (Lleft vs tk0) → σ0 a_0 = some (.cells [(.mp a_1), (I o0c1_0), (LInstr vt tk1)]) → σ0 a_1 = some (.map (List.map (fun e_ => ((AV.int .i64) e_.1, (AV.int .i64) e_.2)) vu)) → TokOk σ0 tk0 vs.length 5 → TokOk σ0 tk1 vt.length 4 → Lo σ_0 ([a_0] ++ [a_1] ++ tkNames tko0c2_0) (tkNames tk0) → Lo σ_0 ([a_0] ++ [a_1] ++ tkNames tko0c2_0) (tkNames tk1) → Dj tk0 tk1 → J3 vs vt vu = some r → K1 env0 σ0 := by
  intro vs vt vu tk0 tk1 env0 σ0 F0 h0 h1 s0 s1 t0 t1 lo0 lo2 dj0 hM
  subst eJ0
  refine hK1 _ _ <| SW.block <| SW.loop <| LW.ind (I := fun n0 env1 σ1 => ∃ (v9 : List Sleft) (va : Int) (vb : List SInstr) (vc : List (Int × Int)) (tk2 : Tk) (tk3 : Tk), Fr σ_0 σ1 ([a_0] ++ [a_1] ++ tkNames tko0c2_0) ∧ env1.get 0 = some (.ptr a_0 0) ∧ env1.get 4 = some (Lleft v9 tk2) ∧ σ1 a_0 = some (.cells [(.mp a_1), (I va), (LInstr vb tk3)]) ∧ σ1 a_1 = some (.map (List.map (fun e_ => ((AV.int .i64) e_.1, (AV.int .i64) e_.2)) vc)) ∧ TokOk σ1 tk2 v9.length 5 ∧ TokOk σ1 tk3 vb.length 4 ∧ Lo σ_0 ([a_0] ++ [a_1] ++ tkNames tko0c2_0) (tkNames tk2) ∧ Lo σ_0 ([a_0] ++ [a_1] ++ tkNames tko0c2_0) (tkNames tk3) ∧ Dj tk2 tk3 ∧ L_i_coding_head_1 f n0 v9 va vb vc = some r) ?_ f _ _ ⟨vs, o0c1_0, vt, vu, tk0, tk1, F0, h0, h1, s0, s1, (t0.len (by first | rfl | simp)), (t1.len (by first | rfl | simp)), lo0, lo2, dj0, hM⟩
  rintro n0 env1 σ1 ⟨v9, va, vb, vc, tk2, tk3, F1, h2, h3, s2, s3, t2, t3, lo3, lo4, dj1, hM⟩
  cases n0 with
  | zero => (rw [L_i_coding_head_1] at hM; cases hM)
  | succ n0 =>
   rw [L_i_coding_head_1] at hM
   refine SW.seq <| SW.seqR fun K2 hK2 => mv h3 <| R.op rfl (a_lenImm ti135 rfl rfl (n := (v9.length : Int)) (by simp) (it rfl rfl rfl (R.done (hK2 _ _ (SW.cond rfl (fun hb0 => ?_) (fun hb0 => ?_))))))
   · have hM := cT hb0 hM
     refine SW.skip <| SW.normK fun K3 hK3 => ?_
     obtain ⟨J2, eJ1, hM⟩ := jn_elim hM
     have hJ1 : ∀ (vd : List Sleft) (ve : Int) (vf : List SInstr) (vg : List (Int × Int)) (tk4 : Tk) (tk5 : Tk) (env2 : Env) (σ2 : St), Fr σ_0 σ2 ([a_0] ++ [a_1] ++ tkNames tko0c2_0) → env2.get 0 = some (.ptr a_0 0) → env2.get 4 = some (Lleft vd tk4) → σ2 a_0 = some (.cells [(.mp a_1), (I ve), (LInstr vf tk5)]) → σ2 a_1 = some (.map (List.map (fun e_ => ((AV.int .i64) e_.1, (AV.int .i64) e_.2)) vg)) → TokOk σ2 tk4 vd.length 5 → TokOk σ2 tk5 vf.length 4 → Lo σ_0 ([a_0] ++ [a_1] ++ tkNames tko0c2_0) (tkNames tk4) → Lo σ_0 ([a_0] ++ [a_1] ++ tkNames tko0c2_0) (tkNames tk5) → Dj tk4 tk5 → J2 vd ve vf vg = some r → K3 env2 σ2 := by
      intro vd ve vf vg tk4 tk5 env2 σ2 F2 h4 h5 s4 s5 t4 t5 lo5 lo6 dj2 hM
      subst eJ1
      refine hK3 _ _ ?_
      exact ⟨n0, Nat.lt_succ_self _, vd, ve, vf, vg, tk4, tk5, F2, h4, h5, s4, s5, (t4.len (by first | rfl | simp)), (t5.len (by first | rfl | simp)), lo5, lo6, dj2, hM⟩
     clear eJ1
     refine SW.block <| SW.seqR fun K4 hK4 => mv h3 ?_
     obtain ⟨x0, hx0, hM⟩ := bd hM
     refine R.op rfl (a_idxImm (f := eleft) (xs := v9) (n := 0) (e := x0) (v := (.agg (cleft x0))) ti135 rfl ti139 rfl rfl rfl (by decide) hx0 rfl (li (v := (.agg (cleft x0))) ti139 rfl rfl (alleft fun a0 σ3 n1 s6 hF0 => ?_)))
     have ne0 := ne_new n1 s2
     have ne1 := ne_new n1 s3
     have lo7 := F1.lo1 n1
     have s7 := hF0.keep s2 (by simp)
     have s8 := hF0.keep s3 (by simp)
     have t6 := t2.keep hF0 (by simp)
     have t7 := t3.keep hF0 (by simp)
     have F3 := F1.andThen hF0 Lo.nil
     refine R.op rfl (a_store (cs' := (cleft x0)) ti139 rfl rfl s6 rfl (nb rfl) rfl rfl fun σ4 s9 hF1 => ?_)
     have sa := hF1.keep s7 (m1 ne0)
     have sb := hF1.keep s8 (m1 ne1)
     have t8 := t6.keep hF1 (not1 (tok_cells t6 s6))
     have t9 := t7.keep hF1 (not1 (tok_cells t7 s6))
     have F4 := F3.andThen hF1 lo7
     refine R.done (hK4 _ _ (SW.seqR fun K5 hK5 => mv h3 ?_))
     obtain ⟨hg0, hM⟩ := gd hM
     refine R.opX rfl (a_tail (f := eleft) (xs := v9) (n := 1) ti135 rfl ti139 rfl (by decide) rfl rfl (by decide) (od hg0) t8 fun tk6 σ5 ta hF2 nn0 => ?_)
     have lo8 := F4.loTk lo3 nn0
     have dj3 := Dj.next dj1 t9 nn0
     have sc := hF2.keep sa (tok_cells t8 sa)
     have sd := hF2.keep sb (tok_map t8 sb)
     have se := hF2.keep s9 (tok_cells t8 s9)
     have tb := t9.keep hF2 (Dj.symm dj1)
     have F5 := F4.andThen hF2 lo3
     refine sn rfl <| R.done (hK5 _ _ (SW.seqR fun K6 hK6 => mv h2 (fp ti139 rfl rfl rfl (by decide) (fp ti25 rfl rfl rfl (by decide) (ld ti23 rfl se rfl (R.op rfl (a_lenImm ti23 rfl rfl (n := (x0.t.kids.length : Int)) (by simp) (fp ti139 rfl rfl rfl (by decide) (ld ti3 rfl se rfl (fp ti139 rfl rfl rfl (by decide) (fp ti25 rfl rfl rfl (by decide) (ld ti9 rfl se rfl (R.op rfl (a_build (cs := [(I 3), (I (x0.t.kids.length : Int)), (I x0.slot), (.str x0.t.name)]) ti57 rfl rfl (pc rfl (pc rfl (pc rfl (pc rfl pn)))) rfl ?_))))))))))))))
     obtain ⟨z3, hr0, hM⟩ := bd hM
     refine cl rfl (oc rfl (oc rfl on)) (AC.go (r_i_coding_add f (SInstr.mk 3 (x0.t.kids.length : Int) x0.slot x0.t.name) a_0 va vb tk3 a_1 vc z3 hr0 _ sc sd (tb.len (by first | rfl | simp)) ne_0_1) (LeL.refl _) (StLe.refl _) fun v_ σ6 hp_ => ?_)
     obtain ⟨tk7, rfl, sf, tc, nn1, hF3⟩ := hp_
     have lo9 := Lo.call F5 (Lo.app (Lo.mem fun j_ hj_ => (ml _ (ml _ hj_))) lo4) nn1
     have dj4 := Dj.call nn1 ta (nA (not1 (tok_cells ta sc)) dj3)
     have sg := hF3.keep sd (mA (m1 (Ne.symm ne_0_1)) (tok_map tb sd))
     have sh := hF3.keep se (mA (m1 (Ne.symm ne0)) (tok_cells tb se))
     have td := ta.keep hF3 (nA (not1 (tok_cells ta sc)) dj3)
     have F6 := F5.andThen hF3 (Lo.app (Lo.mem fun j_ hj_ => (ml _ (ml _ hj_))) lo4)
     refine R.done (hK6 _ _ (SW.seqR fun K7 hK7 => fp ti139 rfl rfl rfl (by decide) (fp ti25 rfl rfl rfl (by decide) (ld ti23 rfl sh rfl (R.op rfl (a_lenImm ti23 rfl rfl (n := (x0.t.kids.length : Int)) (by simp) (mv rfl (R.done (hK7 _ _ (SW.normK fun K8 hK8 => ?_))))))))))
     obtain ⟨J0, eJ2, hM⟩ := jn_elim hM
     have hJ2 : ∀ (vh : List Sleft) (vi : List (Int × Int)) (vj : Int) (vk : List SInstr) (tk8 : Tk) (tk9 : Tk) (env3 : Env) (σ7 : St), Fr σ_0 σ7 ([a_0] ++ [a_1] ++ tkNames tko0c2_0) → env3.get 0 = some (.ptr a_0 0) → env3.get 4 = some (Lleft vh tk8) → σ7 a_1 = some (.map (List.map (fun e_ => ((AV.int .i64) e_.1, (AV.int .i64) e_.2)) vi)) → σ7 a_0 = some (.cells [(.mp a_1), (I vj), (LInstr vk tk9)]) → TokOk σ7 tk8 vh.length 5 → TokOk σ7 tk9 vk.length 4 → Lo σ_0 ([a_0] ++ [a_1] ++ tkNames tko0c2_0) (tkNames tk8) → Lo σ_0 ([a_0] ++ [a_1] ++ tkNames tko0c2_0) (tkNames tk9) → Dj tk8 tk9 → J0 vh vi vj vk = some r → K8 env3 σ7 := by
      intro vh vi vj vk tk8 tk9 env3 σ7 F7 h6 h7 sj sk te tf loa lob dj5 hM
      subst eJ2
      refine hK8 _ _ ?_
      exact hJ1 vh vj vk vi tk8 tk9 _ _ F7 h6 h7 sk sj (te.len (by first | rfl | simp)) (tf.len (by first | rfl | simp)) loa lob dj5 hM
     clear eJ2
     refine SW.block <| SW.loop <| LW.ind (I := fun n2 env4 σ8 => ∃ (v0 : List Sleft) (v1 : Int) (v2 : List (Int × Int)) (v3 : Int) (v4 : List SInstr) (tka : Tk) (tkb : Tk), Fr σ_0 σ8 ([a_0] ++ [a_1] ++ tkNames tko0c2_0) ∧ env4.get 0 = some (.ptr a_0 0) ∧ env4.get 4 = some (Lleft v0 tka) ∧ env4.get 84 = some (LTerm x0.t.kids .no) ∧ env4.get 85 = some (I (x0.t.kids.length : Int)) ∧ env4.get 86 = some (I v1) ∧ σ8 a_1 = some (.map (List.map (fun e_ => ((AV.int .i64) e_.1, (AV.int .i64) e_.2)) v2)) ∧ σ8 a_0 = some (.cells [(.mp a_1), (I v3), (LInstr v4 tkb)]) ∧ TokOk σ8 tka v0.length 5 ∧ TokOk σ8 tkb v4.length 4 ∧ Lo σ_0 ([a_0] ++ [a_1] ++ tkNames tko0c2_0) (tkNames tka) ∧ Lo σ_0 ([a_0] ++ [a_1] ++ tkNames tko0c2_0) (tkNames tkb) ∧ Dj tka tkb ∧ L_i_coding_head_2 f x0 J0 n2 v0 v1 v2 v3 v4 = some r) ?_ f _ _ ⟨(List.drop (1 : Int).toNat v9), 0, vc, va, z3, tk6, tk7, F6, h2, rfl, rfl, rfl, rfl, sg, sf, (td.len (by first | rfl | simp)), (tc.len (by first | rfl | simp)), lo8, lo9, (Dj.symm dj4), hM⟩
     rintro n2 env4 σ8 ⟨v0, v1, v2, v3, v4, tka, tkb, F8, h8, h9, ha, hb, hc, sl, sm, tg, th, loc, lod, dj6, hM⟩
     cases n2 with
     | zero => (rw [L_i_coding_head_2] at hM; cases hM)
     | succ n2 =>
      rw [L_i_coding_head_2] at hM
      refine SW.seqR fun K9 hK9 => it hc hb rfl <| R.done (hK9 _ _ (SW.seq (SW.cond rfl (fun hb1 => ?_) (fun hb1 => ?_))))
      · have hM := cT hb1 hM
        refine SW.skip <| SW.seqK fun Ka hKa => ?_
        obtain ⟨J1, eJ3, hM⟩ := jn_elim hM
        have hJ3 : ∀ (v5 : List Sleft) (v6 : List (Int × Int)) (v7 : Int) (v8 : List SInstr) (tkc : Tk) (tkd : Tk) (env5 : Env) (σ9 : St), Fr σ_0 σ9 ([a_0] ++ [a_1] ++ tkNames tko0c2_0) → env5.get 0 = some (.ptr a_0 0) → env5.get 4 = some (Lleft v5 tkc) → env5.get 84 = some (LTerm x0.t.kids .no) → env5.get 85 = some (I (x0.t.kids.length : Int)) → env5.get 86 = some (I v1) → σ9 a_1 = some (.map (List.map (fun e_ => ((AV.int .i64) e_.1, (AV.int .i64) e_.2)) v6)) → σ9 a_0 = some (.cells [(.mp a_1), (I v7), (LInstr v8 tkd)]) → TokOk σ9 tkc v5.length 5 → TokOk σ9 tkd v8.length 4 → Lo σ_0 ([a_0] ++ [a_1] ++ tkNames tko0c2_0) (tkNames tkc) → Lo σ_0 ([a_0] ++ [a_1] ++ tkNames tko0c2_0) (tkNames tkd) → Dj tkc tkd → J1 v5 v6 v7 v8 = some r → Ka env5 σ9 := by
         intro v5 v6 v7 v8 tkc tkd env5 σ9 F9 hd he hf hg hh so sp ti tj loe lof dj7 hM
         subst eJ3
         refine hKa _ _ <| SW.region <| it hh rfl rfl <| mv rfl <| R.done ?_
         exact ⟨n2, Nat.lt_succ_self _, v5, (IntKind.wrap .i64 (v1 + 1)), v6, v7, v8, tkc, tkd, F9, hd, he, hf, hg, rfl, so, sp, (ti.len (by first | rfl | simp)), (tj.len (by first | rfl | simp)), loe, lof, dj7, hM⟩
        clear eJ3
        refine SW.block <| SW.seqR fun Kb hKb => ?_
        obtain ⟨hg1, hM⟩ := gd hM
        obtain ⟨x1, hx1, hM⟩ := bd hM
        refine R.op rfl (a_idxImm (f := eTerm) (xs := x0.t.kids) (n := v1) (e := x1) (v := (.agg (cTerm x1))) ti23 rfl ti25 rfl ha hc (od hg1) hx1 (eTerm_eq x1) (li (v := (.agg (cTerm x1))) ti25 rfl rfl (alTerm fun a1 σa n3 sq hF4 => ?_)))
        have ne2 := ne_new n3 sl
        have ne3 := ne_new n3 sm
        have log := F8.lo1 n3
        have sr := hF4.keep sl (by simp)
        have ss := hF4.keep sm (by simp)
        have tk := tg.keep hF4 (by simp)
        have tl := th.keep hF4 (by simp)
        have Fa := F8.andThen hF4 Lo.nil
        refine R.op rfl (a_store (cs' := (cTerm x1)) ti25 rfl rfl sq rfl (nb rfl) rfl rfl fun σb st hF5 => ?_)
        have su := hF5.keep sr (m1 ne2)
        have sv := hF5.keep ss (m1 ne3)
        have tm := tk.keep hF5 (not1 (tok_cells tk sq))
        have tn := tl.keep hF5 (not1 (tok_cells tl sq))
        have Fb := Fa.andThen hF5 log
        refine R.done (hKb _ _ (SW.seq (SW.seqR fun Kc hKc => fp ti25 rfl rfl rfl (by decide) (ld ti3 rfl st rfl (it rfl rfl rfl (R.done (hKc _ _ (SW.cond rfl (fun hb2 => ?_) (fun hb2 => ?_)))))))))
        · have hM := cT hb2 hM
          refine SW.seqR fun Kd hKd => mv h8 <| ld (v := (.agg (cTerm x1))) ti25 rfl st rfl ?_
          obtain ⟨z0, hr1, hM⟩ := bd hM
          refine cl rfl (oc rfl (oc rfl on)) (AC.go (r_i_coding_described f x1 a_0 v3 v4 tkb a_1 v2 z0 hr1 _ sv su (tn.len (by first | rfl | simp)) ne_0_1) (LeL.refl _) (StLe.refl _) fun v_ σc hp_ => ?_)
          obtain ⟨tke, rfl, sw, sx, to, nn2, hF6⟩ := hp_
          have loh := Lo.call Fb (Lo.app (Lo.app (Lo.mem fun j_ hj_ => (ml _ (ml _ hj_))) (Lo.mem fun j_ hj_ => (ml _ (List.mem_append_right _ hj_)))) lod) nn2
          have dj8 := Dj.call nn2 tm (nA (nA (not1 (tok_cells tm sv)) (not1 (tok_map tm su))) dj6)
          have sy := hF6.keep st (mA (mA (m1 (Ne.symm ne3)) (m1 (Ne.symm ne2))) (tok_cells tn st))
          have tp := tm.keep hF6 (nA (nA (not1 (tok_cells tm sv)) (not1 (tok_map tm su))) dj6)
          have Fc := Fb.andThen hF6 (Lo.app (Lo.app (Lo.mem fun j_ hj_ => (ml _ (ml _ hj_))) (Lo.mem fun j_ hj_ => (ml _ (List.mem_append_right _ hj_)))) lod)
          refine R.done (hKd _ _ (SW.exit (Qte (Qbx ?_))))
          exact hJ3 v0 z0.2.2 z0.1 z0.2.1 tka tke _ _ Fc h8 h9 ha hb hc sx sw (tp.len (by first | rfl | simp)) (to.len (by first | rfl | simp)) loc loh (Dj.symm dj8) hM
        · have hM := cF hb2 hM
          refine SW.skip <| SW.seqR fun Ke hKe => mv h8 ?_
          obtain ⟨z1, hr2, hM⟩ := bd hM
          refine cl rfl (oc rfl on) (AC.go (r_i_coding_slot f a_0 v3 v4 tkb a_1 v2 z1 hr2 _ sv su ne_0_1) (LeL.refl _) (StLe.refl _) fun v_ σd hp_ => ?_)
          obtain ⟨rfl, sz, hF7⟩ := hp_
          have s10 := hF7.keep su (m1 (Ne.symm ne_0_1))
          have s11 := hF7.keep st (m1 (Ne.symm ne3))
          have tq := tm.keep hF7 (not1 (tok_cells tm sv))
          have tr := tn.keep hF7 (not1 (tok_cells tn sv))
          have Fd := Fb.andThen hF7 (Lo.mem fun j_ hj_ => (ml _ (ml _ hj_)))
          refine sn rfl <| R.done (hKe _ _ (SW.seqR fun Kf hKf => mv h8 (mv rfl (R.op rfl (a_build (cs := [(I 4), (I z1.1), (I 0), (.str (⟨#[]⟩ : ByteArray))]) ti57 rfl rfl (pc rfl (pc rfl pn)) rfl ?_)))))
          obtain ⟨z2, hr3, hM⟩ := bd hM
          refine cl rfl (oc rfl (oc rfl on)) (AC.go (r_i_coding_add f (SInstr.mk 4 z1.1 0 (⟨#[]⟩ : ByteArray)) a_0 z1.2 v4 tkb a_1 v2 z2 hr3 _ sz s10 (tr.len (by first | rfl | simp)) ne_0_1) (LeL.refl _) (StLe.refl _) fun v_ σe hp_ => ?_)
          obtain ⟨tkf, rfl, s12, ts, nn3, hF8⟩ := hp_
          have loi := Lo.call Fd (Lo.app (Lo.mem fun j_ hj_ => (ml _ (ml _ hj_))) lod) nn3
          have dj9 := Dj.call nn3 tq (nA (not1 (tok_cells tq sz)) dj6)
          have s13 := hF8.keep s10 (mA (m1 (Ne.symm ne_0_1)) (tok_map tr s10))
          have s14 := hF8.keep s11 (mA (m1 (Ne.symm ne3)) (tok_cells tr s11))
          have tt := tq.keep hF8 (nA (not1 (tok_cells tq sz)) dj6)
          have Fe := Fd.andThen hF8 (Lo.app (Lo.mem fun j_ hj_ => (ml _ (ml _ hj_))) lod)
          refine R.done (hKf _ _ (SW.region (mv h9 (ld (v := (.agg (cTerm x1))) ti25 rfl s14 rfl (mv rfl (R.op rfl (a_build (cs := [(I x1.kind), (I x1.n), (.str x1.name), (LTerm x1.kids .no), (I z1.1)]) ti139 rfl rfl (pc rfl (pc rfl pn)) rfl (R.op rfl (a_buildSlice (v := (Lleft ([(Sleft.mk x1 z1.1)]) .full)) (bsv_of ti135 rfl ti139 (pc rfl pn) rfl ⟨rfl, by decide, by decide, rfl⟩) ?_)))))))))
          obtain ⟨hg2, hM⟩ := gd hM
          refine R.op rfl (a_append (es := List.map eleft v0) (ds := List.map eleft ([(Sleft.mk x1 z1.1)])) (rs := List.map eleft (v0 ++ ([(Sleft.mk x1 z1.1)]))) ti135 rfl ti135 rfl ti139 rfl rfl (.inl rfl) rfl rfl (by decide) (by decide) (by simpa using od hg2) (.inl rfl) (tt.len (by first | rfl | simp)) (by simp) fun tkg σf tu hF9 nn4 => ?_)
          have loj := Fe.loTk loc nn4
          have dja := Dj.next (Dj.symm dj9) ts nn4
          have s15 := hF9.keep s13 (tok_map tt s13)
          have s16 := hF9.keep s14 (tok_cells tt s14)
          have s17 := hF9.keep s12 (tok_cells tt s12)
          have tv := ts.keep hF9 dj9
          have Ff := Fe.andThen hF9 loc
          refine sn rfl <| R.done ?_
          exact hJ3 (v0 ++ ([(Sleft.mk x1 z1.1)])) v2 z1.2 z2 tkg tkf _ _ Ff h8 rfl ha hb hc s15 s17 (tu.len (by first | rfl | simp)) (tv.len (by first | rfl | simp)) loj loi dja hM
      · have hM := cF hb1 hM
        refine SW.exit <| Qte <| Qte <| Qbx ?_
        exact hJ2 v0 v2 v3 v4 tka tkb _ _ F8 h8 h9 sl sm (tg.len (by first | rfl | simp)) (th.len (by first | rfl | simp)) loc lod dj6 hM
   · have hM := cF hb0 hM
     refine SW.exit <| Qte <| Qte <| Qbx ?_
     obtain rfl := si hM
     show retQ _ _ _ .normal _ _
     exact end_of rn (.tup []) _ (Le.refl _) (StLe.refl _) ⟨tk3, rfl, s2, s3, (t3.len (by first | rfl | simp)), lo4.nn, F1⟩
 clear eJ0
 refine SW.seqR fun Kg hKg => mv rfl <| R.op rfl (a_lenImm ti23 rfl rfl (n := (p_1.length : Int)) (by simp) (mv rfl (R.done (hKg _ _ (SW.block (SW.loop (LW.ind (I := fun n4 env6 σg => ∃ (vl : List Sleft) (vm : Int) (vn : List SInstr) (vo : List (Int × Int)) (tkh : Tk) (tki : Tk), Fr σ_0 σg ([a_0] ++ [a_1] ++ tkNames tko0c2_0) ∧ env6.get 0 = some (.ptr a_0 0) ∧ env6.get 4 = some (Lleft vl tkh) ∧ env6.get 13 = some (LTerm p_1 tk_1) ∧ env6.get 14 = some (I (p_1.length : Int)) ∧ env6.get 15 = some (I vm) ∧ σg a_0 = some (.cells [(.mp a_1), (I o0c1_0), (LInstr vn tki)]) ∧ σg a_1 = some (.map (List.map (fun e_ => ((AV.int .i64) e_.1, (AV.int .i64) e_.2)) vo)) ∧ TokOk σg tkh vl.length 5 ∧ TokOk σg tki vn.length 4 ∧ Lo σ_0 ([a_0] ++ [a_1] ++ tkNames tko0c2_0) (tkNames tkh) ∧ Lo σ_0 ([a_0] ++ [a_1] ++ tkNames tko0c2_0) (tkNames tki) ∧ Dj tkh tki ∧ L_i_coding_head_3 f p_1 o0c1_0 J3 n4 vl vm vn vo = some r) ?_ f _ _ ⟨([] : List Sleft), 0, o0c2_0, o1m_0, .full, tko0c2_0, F_0, rfl, rfl, rfl, rfl, rfl, s_0, s_1, trivial, (to0c2_0.len (by first | rfl | simp)), Lo.full, (Lo.mem fun j_ hj_ => (List.mem_append_right _ hj_)), (Dj.fullL _), hM⟩)))))))
 rintro n4 env6 σg ⟨vl, vm, vn, vo, tkh, tki, Fg, hi, hj, hk, hl, hm, s18, s19, tw, tx, lok, lol, djb, hM⟩
 cases n4 with
 | zero => (rw [L_i_coding_head_3] at hM; cases hM)
 | succ n4 =>
  rw [L_i_coding_head_3] at hM
  refine SW.seqR fun Kh hKh => it hm hl rfl <| R.done (hKh _ _ (SW.seq (SW.cond rfl (fun hb3 => ?_) (fun hb3 => ?_))))
  · have hM := cT hb3 hM
    refine SW.skip <| SW.seqK fun Ki hKi => ?_
    obtain ⟨J4, eJ4, hM⟩ := jn_elim hM
    have hJ4 : ∀ (vp : List Sleft) (vq : List SInstr) (vr : List (Int × Int)) (tkj : Tk) (tkk : Tk) (env7 : Env) (σh : St), Fr σ_0 σh ([a_0] ++ [a_1] ++ tkNames tko0c2_0) → env7.get 0 = some (.ptr a_0 0) → env7.get 4 = some (Lleft vp tkj) → env7.get 13 = some (LTerm p_1 tk_1) → env7.get 14 = some (I (p_1.length : Int)) → env7.get 15 = some (I vm) → σh a_0 = some (.cells [(.mp a_1), (I o0c1_0), (LInstr vq tkk)]) → σh a_1 = some (.map (List.map (fun e_ => ((AV.int .i64) e_.1, (AV.int .i64) e_.2)) vr)) → TokOk σh tkj vp.length 5 → TokOk σh tkk vq.length 4 → Lo σ_0 ([a_0] ++ [a_1] ++ tkNames tko0c2_0) (tkNames tkj) → Lo σ_0 ([a_0] ++ [a_1] ++ tkNames tko0c2_0) (tkNames tkk) → Dj tkj tkk → J4 vp vq vr = some r → Ki env7 σh := by
     intro vp vq vr tkj tkk env7 σh Fh hn ho hp hq hr s1a s1b ty tz lom lon djc hM
     subst eJ4
     refine hKi _ _ <| SW.region <| it hr rfl rfl <| mv rfl <| R.done ?_
     exact ⟨n4, Nat.lt_succ_self _, vp, (IntKind.wrap .i64 (vm + 1)), vq, vr, tkj, tkk, Fh, hn, ho, hp, hq, rfl, s1a, s1b, (ty.len (by first | rfl | simp)), (tz.len (by first | rfl | simp)), lom, lon, djc, hM⟩
    clear eJ4
    refine SW.block <| SW.seqR fun Kj hKj => mv hm ?_
    obtain ⟨hg3, hM⟩ := gd hM
    obtain ⟨x2, hx2, hM⟩ := bd hM
    refine R.op rfl (a_idxImm (f := eTerm) (xs := p_1) (n := vm) (e := x2) (v := (.agg (cTerm x2))) ti23 rfl ti25 rfl hk hm (od hg3) hx2 (eTerm_eq x2) (li (v := (.agg (cTerm x2))) ti25 rfl rfl (alTerm fun a2 σi n5 s1c hFa => ?_)))
    have ne4 := ne_new n5 s18
    have ne5 := ne_new n5 s19
    have loo := Fg.lo1 n5
    have s1d := hFa.keep s18 (by simp)
    have s1e := hFa.keep s19 (by simp)
    have t10 := tw.keep hFa (by simp)
    have t11 := tx.keep hFa (by simp)
    have Fi := Fg.andThen hFa Lo.nil
    refine sn rfl <| R.op rfl (a_store (cs' := (cTerm x2)) ti25 rfl rfl s1c rfl (nb rfl) rfl rfl fun σj s1f hFb => ?_)
    have s1g := hFb.keep s1d (m1 ne4)
    have s1h := hFb.keep s1e (m1 ne5)
    have t12 := t10.keep hFb (not1 (tok_cells t10 s1c))
    have t13 := t11.keep hFb (not1 (tok_cells t11 s1c))
    have Fj := Fi.andThen hFb loo
    refine R.done (hKj _ _ (SW.seqR fun Kk hKk => fp ti25 rfl rfl rfl (by decide) (ld ti3 rfl s1f rfl (R.done (hKk _ _ (SW.block (SW.seqR fun Kl hKl => it rfl rfl rfl (sn rfl (R.done (hKl _ _ (SW.cond rfl (fun hb4 => ?_) (fun hb4 => ?_))))))))))))
    · have hM := cT hb4 hM
      refine SW.region <| mv hi <| fp ti25 rfl rfl rfl (by decide) <| ld ti3 rfl s1f rfl <| mv rfl <| R.op rfl (a_build (cs := [(I 2), (I x2.n), (I vm), (.str (⟨#[]⟩ : ByteArray))]) ti57 rfl rfl (pc rfl (pc rfl (pc rfl pn))) rfl ?_)
      obtain ⟨z4, hr4, hM⟩ := bd hM
      refine cl rfl (oc rfl (oc rfl on)) (AC.go (r_i_coding_add f (SInstr.mk 2 x2.n vm (⟨#[]⟩ : ByteArray)) a_0 o0c1_0 vn tki a_1 vo z4 hr4 _ s1g s1h (t13.len (by first | rfl | simp)) ne_0_1) (LeL.refl _) (StLe.refl _) fun v_ σk hp_ => ?_)
      obtain ⟨tkl, rfl, s1i, t14, nn5, hFc⟩ := hp_
      have lop := Lo.call Fj (Lo.app (Lo.mem fun j_ hj_ => (ml _ (ml _ hj_))) lol) nn5
      have djd := Dj.call nn5 t12 (nA (not1 (tok_cells t12 s1g)) djb)
      have s1j := hFc.keep s1h (mA (m1 (Ne.symm ne_0_1)) (tok_map t13 s1h))
      have s1k := hFc.keep s1f (mA (m1 (Ne.symm ne4)) (tok_cells t13 s1f))
      have t15 := t12.keep hFc (nA (not1 (tok_cells t12 s1g)) djb)
      have Fk := Fj.andThen hFc (Lo.app (Lo.mem fun j_ hj_ => (ml _ (ml _ hj_))) lol)
      refine R.done ?_
      exact hJ4 vl z4 vo tkh tkl _ _ Fk hi hj hk hl hm s1i s1j (t15.len (by first | rfl | simp)) (t14.len (by first | rfl | simp)) lok lop (Dj.symm djd) hM
    · have hM := cF hb4 hM
      refine SW.seqR fun Km hKm => it rfl rfl rfl <| sn rfl <| R.done (hKm _ _ (SW.cond rfl (fun hb5 => ?_) (fun hb5 => ?_)))
      · have hM := cT hb5 hM
        refine SW.seqK fun Kn hKn => SW.draw' mixed [(0, false), (1, false), (2, false), (4, false), (3, false), (5, false), (6, false), (7, false), (8, false), (9, false), (10, false), (11, false)] [] [] (by kernel_rfl) (by kernel_rfl) (fun t ht => by simp at ht) <| D.op rfl rfl (a_move hi (D.op rfl rfl (a_nilPtr rfl (D.op rfl rfl (a_fieldPtr ti134 rfl rfl rfl (by decide) (D.op rfl rfl (a_fieldPtr ti25 rfl rfl rfl (by decide) (D.op rfl rfl (a_loadPtr ti132 rfl s1g rfl (D.op rfl rfl (a_loadPtr ti3 rfl s1f rfl (D.op rfl rfl (a_lookupInt (ev := (AV.int .i64)) (k := x2.n) (z := 0) (v := (I ((tfind x2.n vo).getD 0))) ti132 rfl ti3 rfl ti3 rfl rfl rfl s1h rfl (D.op rfl rfl (a_move rfl (D.op rfl rfl (a_extract rfl rfl (D.op rfl rfl (a_extract rfl rfl (D.op rfl rfl (a_assign rfl (D.op rfl rfl (a_assign rfl (D.done (hKn _ _ (SW.seqR fun Ko hKo => mv rfl ?_))))))))))))))))))))))))))
        refine R.done (hKo _ _ (SW.cond rfl (fun hb6 => ?_) (fun hb6 => ?_)))
        · have hM := cT hb6 hM
          refine SW.region <| mv hi <| mv rfl <| mv rfl <| R.op rfl (a_build (cs := [(I 1), (I ((tfind x2.n vo).getD 0)), (I vm), (.str (⟨#[]⟩ : ByteArray))]) ti57 rfl rfl (pc rfl (pc rfl (pc rfl pn))) rfl ?_)
          obtain ⟨z5, hr5, hM⟩ := bd hM
          refine cl rfl (oc rfl (oc rfl on)) (AC.go (r_i_coding_add f (SInstr.mk 1 ((tfind x2.n vo).getD 0) vm (⟨#[]⟩ : ByteArray)) a_0 o0c1_0 vn tki a_1 vo z5 hr5 _ s1g s1h (t13.len (by first | rfl | simp)) ne_0_1) (LeL.refl _) (StLe.refl _) fun v_ σl hp_ => ?_)
          obtain ⟨tkm, rfl, s1l, t16, nn6, hFd⟩ := hp_
          have loq := Lo.call Fj (Lo.app (Lo.mem fun j_ hj_ => (ml _ (ml _ hj_))) lol) nn6
          have dje := Dj.call nn6 t12 (nA (not1 (tok_cells t12 s1g)) djb)
          have s1m := hFd.keep s1h (mA (m1 (Ne.symm ne_0_1)) (tok_map t13 s1h))
          have s1n := hFd.keep s1f (mA (m1 (Ne.symm ne4)) (tok_cells t13 s1f))
          have t17 := t12.keep hFd (nA (not1 (tok_cells t12 s1g)) djb)
          have Fl := Fj.andThen hFd (Lo.app (Lo.mem fun j_ hj_ => (ml _ (ml _ hj_))) lol)
          refine R.done ?_
          exact hJ4 vl z5 vo tkh tkm _ _ Fl hi hj hk hl hm s1l s1m (t17.len (by first | rfl | simp)) (t16.len (by first | rfl | simp)) lok loq (Dj.symm dje) hM
        · have hM := cF hb6 hM
          refine SW.draw' mixed [(0, false), (1, false), (2, false), (4, false), (6, false), (3, false), (5, false), (7, false)] [] [] (by kernel_rfl) (by kernel_rfl) (fun t ht => by simp at ht) <| D.op rfl rfl (a_move hi (D.op rfl rfl (a_nilPtr rfl (D.op rfl rfl (a_fieldPtr ti134 rfl rfl rfl (by decide) (D.op rfl rfl (a_fieldPtr ti25 rfl rfl rfl (by decide) (D.op rfl rfl (a_move rfl (D.op rfl rfl (a_loadPtr ti132 rfl s1g rfl (D.op rfl rfl (a_loadPtr ti3 rfl s1f rfl (D.op rfl rfl (a_mapUpdate (v := (I vm)) (es' := (List.map (fun e_ => ((AV.int .i64) e_.1, (AV.int .i64) e_.2)) (tset x2.n vm vo))) ti132 rfl ti3 rfl rfl rfl s1h rfl (keys_int _) (mset_int _) fun σm s1o hFe => ?_)))))))))))))))
          have s1p := hFe.keep s1g (m1 ne_0_1)
          have s1q := hFe.keep s1f (m1 (Ne.symm ne5))
          have t18 := t12.keep hFe (not1 (tok_map t12 s1h))
          have t19 := t13.keep hFe (not1 (tok_map t13 s1h))
          have Fm := Fj.andThen hFe (Lo.mem fun j_ hj_ => (ml _ (List.mem_append_right _ hj_)))
          refine D.done ?_
          exact hJ4 vl vn (tset x2.n vm vo) tkh tki _ _ Fm hi hj hk hl hm s1p s1o (t18.len (by first | rfl | simp)) (t19.len (by first | rfl | simp)) lok lol djb hM
      · have hM := cF hb5 hM
        refine SW.region <| mv hj <| ld (v := (.agg (cTerm x2))) ti25 rfl s1f rfl <| mv rfl <| R.op rfl (a_build (cs := [(I x2.kind), (I x2.n), (.str x2.name), (LTerm x2.kids .no), (I vm)]) ti139 rfl rfl (pc rfl (pc rfl pn)) rfl (R.op rfl (a_buildSlice (v := (Lleft ([(Sleft.mk x2 vm)]) .full)) (bsv_of ti135 rfl ti139 (pc rfl pn) rfl ⟨rfl, by decide, by decide, rfl⟩) ?_)))
        obtain ⟨hg4, hM⟩ := gd hM
        refine R.op rfl (a_append (es := List.map eleft vl) (ds := List.map eleft ([(Sleft.mk x2 vm)])) (rs := List.map eleft (vl ++ ([(Sleft.mk x2 vm)]))) ti135 rfl ti135 rfl ti139 rfl rfl (.inl rfl) rfl rfl (by decide) (by decide) (by simpa using od hg4) (.inl rfl) (t12.len (by first | rfl | simp)) (by simp) fun tkn σn t1a hFf nn7 => ?_)
        have lor := Fj.loTk lok nn7
        have djf := Dj.next djb t13 nn7
        have s1r := hFf.keep s1g (tok_cells t12 s1g)
        have s1s := hFf.keep s1h (tok_map t12 s1h)
        have s1t := hFf.keep s1f (tok_cells t12 s1f)
        have t1b := t13.keep hFf (Dj.symm djb)
        have Fn := Fj.andThen hFf lok
        refine sn rfl <| R.done ?_
        exact hJ4 (vl ++ ([(Sleft.mk x2 vm)])) vn vo tkn tki _ _ Fn hi rfl hk hl hm s1r s1s (t1a.len (by first | rfl | simp)) (t1b.len (by first | rfl | simp)) lor lol djf hM
  · have hM := cF hb3 hM
    refine SW.exit <| Qte <| Qte <| Qbx ?_
    exact hJ0 vl vn vo tkh tki _ _ Fg hi hj s18 s19 (tw.len (by first | rfl | simp)) (tx.len (by first | rfl | simp)) lok lol djb hM

def L_i_coding_build_1 (f : Nat) (p_1 : STerm) (v0 : List Int) (J0 : List (Int × Int) → Int → List SInstr → Option (Int × Int × List SInstr × List (Int × Int))) : Nat → Int → List (Int × Int) → Int → List SInstr → Option (Int × Int × List SInstr × List (Int × Int))
 | 0, _, _, _, _ => none
 | n + 1, v1, v2, v3, v4 =>
 bif decide (v1 < (p_1.kids.length : Int)) then (
 jn (fun (v5 : List (Int × Int)) (v6 : Int) (v7 : List SInstr) => (
 L_i_coding_build_1 f p_1 v0 J0 n (IntKind.wrap .i64 (v1 + 1)) v5 v6 v7
 )) fun J1 => (
 bif decide (0 ≤ v1) then
 Option.bind (p_1.kids[(v1 : Int).toNat]?) fun x0 =>
 bif (x0.kind == 3) then (
 Option.bind (v0[(v1 : Int).toNat]?) fun x1 =>
 Option.bind (M_i_coding_add f (SInstr.mk 5 x1 0 (⟨#[]⟩ : ByteArray)) v3 v4 v2) fun z0 =>
 J1 v2 v3 z0
 ) else (
 Option.bind (M_i_coding_described f x0 v3 v4 v2) fun z1 =>
 J1 z1.2.2 z1.1 z1.2.1
 )
 else none
 )
 ) else (
 J0 v2 v3 v4
 )

def L_i_coding_build_2 (c_i_coding_build : STerm → Int → (List SInstr) → (List (Int × Int)) → Option (Int × Int × List SInstr × List (Int × Int))) (p_1 : STerm) (J2 : Int → List SInstr → List (Int × Int) → List Int → Option (Int × Int × List SInstr × List (Int × Int))) : Nat → Int → Int → List SInstr → List (Int × Int) → List Int → Option (Int × Int × List SInstr × List (Int × Int))
 | 0, _, _, _, _, _ => none
 | n + 1, v8, v9, va, vb, vc =>
 bif decide (v8 < (p_1.kids.length : Int)) then (
 jn (fun (vd : Int) (ve : List SInstr) (vf : List (Int × Int)) (vg : List Int) => (
 L_i_coding_build_2 c_i_coding_build p_1 J2 n (IntKind.wrap .i64 (v8 + 1)) vd ve vf vg
 )) fun J3 => (
 bif decide (0 ≤ v8) then
 Option.bind (p_1.kids[(v8 : Int).toNat]?) fun x2 =>
 bif (x2.kind == 3) then (
 Option.bind (c_i_coding_build x2 v9 va vb) fun z2 =>
 Option.bind (vc[(v8 : Int).toNat]?) fun x3 =>
 J3 z2.2.1 z2.2.2.1 z2.2.2.2 (List.set vc (v8 : Int).toNat z2.1)
 ) else (
 J3 v9 va vb vc
 )
 else none
 )
 ) else (
 J2 v9 va vb vc
 )

def B_i_coding_build (f : Nat) (c_i_coding_build : STerm → Int → (List SInstr) → (List (Int × Int)) → Option (Int × Int × List SInstr × List (Int × Int))) (p_1 : STerm) (o0c1_0 : Int) (o0c2_0 : List SInstr) (o1m_0 : List (Int × Int)) : Option (Int × Int × List SInstr × List (Int × Int)) :=
 bif decide (0 ≤ (p_1.kids.length : Int)) then
 bif decide ((p_1.kids.length : Int) ≤ 4294967296) then
 jn (fun (vh : Int) (vi : List SInstr) (vj : List (Int × Int)) (v0 : List Int) => (
 Option.bind (M_i_coding_slot f vh vi vj) fun z3 =>
 Option.bind (M_i_coding_add f (SInstr.mk 7 (p_1.kids.length : Int) z3.1 p_1.name) z3.2 vi vj) fun z4 =>
 jn (fun (vk : List (Int × Int)) (vl : Int) (vm : List SInstr) => (
 some (z3.1, vl, vm, vk)
 )) fun J0 => (
 L_i_coding_build_1 f p_1 v0 J0 f 0 vj z3.2 z4
 )
 )) fun J2 => (
 L_i_coding_build_2 c_i_coding_build p_1 J2 f 0 o0c1_0 o0c2_0 o1m_0 (List.replicate ((p_1.kids.length : Int) : Int).toNat 0)
 )
 else none
 else none

def M_i_coding_build : Nat → STerm → Int → (List SInstr) → (List (Int × Int)) → Option (Int × Int × List SInstr × List (Int × Int))
 | 0, _, _, _, _ => none
 | f + 1, p_1, o0c1_0, o0c2_0, o1m_0 => B_i_coding_build f (M_i_coding_build f) p_1 o0c1_0 o0c2_0 o1m_0

def Q_i_coding_build (c : STerm → Int → (List SInstr) → (List (Int × Int)) → Option (Int × Int × List SInstr × List (Int × Int))) : Prop := ∀ (p_1 : STerm) (a_0 : Nat) (o0c1_0 : Int) (o0c2_0 : List SInstr) (tko0c2_0 : Tk) (a_1 : Nat) (o1m_0 : List (Int × Int)) (r : Int × Int × List SInstr × List (Int × Int)), c p_1 o0c1_0 o0c2_0 o1m_0 = some r → ∀ (σ_0 : St), (s_0 : σ_0 a_0 = some (.cells [(.mp a_1), (I o0c1_0), (LInstr o0c2_0 tko0c2_0)])) → (s_1 : σ_0 a_1 = some (.map (List.map (fun e_ => ((AV.int .i64) e_.1, (AV.int .i64) e_.2)) o1m_0))) → (to0c2_0 : TokOk σ_0 tko0c2_0 o0c2_0.length 4) → (ne_0_1 : a_0 ≠ a_1) → AC Tryz.prog 144 [(.ptr a_0 0), (.agg (cTerm p_1))] σ_0 (fun v s => ∃ (tkr_0 : Tk), v = (I r.1) ∧ s a_0 = some (.cells [(.mp a_1), (I r.2.1), (LInstr r.2.2.1 tkr_0)]) ∧ s a_1 = some (.map (List.map (fun e_ => ((AV.int .i64) e_.1, (AV.int .i64) e_.2)) r.2.2.2)) ∧ TokOk s tkr_0 r.2.2.1.length 4 ∧ (∀ i ∈ tkNames tkr_0, i ∈ ([a_0] ++ [a_1] ++ tkNames tko0c2_0) ∨ σ_0 i = none) ∧ Fr σ_0 s ([a_0] ++ [a_1] ++ tkNames tko0c2_0))

theorem b_i_coding_build (f : Nat) {c_i_coding_build : STerm → Int → (List SInstr) → (List (Int × Int)) → Option (Int × Int × List SInstr × List (Int × Int))} (ih_i_coding_build : Q_i_coding_build c_i_coding_build) : Q_i_coding_build (B_i_coding_build f c_i_coding_build) := by
 intro p_1 a_0 o0c1_0 o0c2_0 tko0c2_0 a_1 o1m_0 r hM σ_0 s_0 s_1 to0c2_0 ne_0_1
 have F_0 := Fr.refl σ_0 ([a_0] ++ [a_1] ++ tkNames tko0c2_0)
 unfold B_i_coding_build at hM
 refine AC.of_body Tryz.func144 rfl rfl (by rfl) (by simp [Tryz.f144]) <| SW.seqR fun K0 hK0 => R.op rfl (a_box (v := (.agg (cTerm p_1))) rfl rfl fun a0 σ0 n0 s0 hF0 => ?_)
 have ne0 := ne_new n0 s_0
 have ne1 := ne_new n0 s_1
 have lo0 := F_0.lo1 n0
 have s1 := hF0.keep s_0 (by simp)
 have s2 := hF0.keep s_1 (by simp)
 have t0 := to0c2_0.keep hF0 (by simp)
 have F0 := F_0.andThen hF0 Lo.nil
 refine sn rfl <| R.done (hK0 _ _ (SW.seqR fun K1 hK1 => fp ti25 rfl rfl rfl (by decide) (ld ti23 rfl s0 rfl (R.op rfl (a_lenImm ti23 rfl rfl (n := (p_1.kids.length : Int)) (by simp) ?_)))))
 obtain ⟨hg0, hM⟩ := gd hM
 obtain ⟨hg1, hM⟩ := gd hM
 refine R.makeSlice (f := (AV.int .i64)) (zx := 0) (k := (p_1.kids.length : Int)) ti76 rfl ti3 rfl rfl (LeL.cons (Le.refl _) LeL.nil) (by decide) (by decide) rfl rfl (od hg0) (od hg1) fun a1 σ1 cp0 n1 s3 hF1 hc0 => ?_
 have ne2 := ne_new n1 s1
 have ne3 := ne_new n1 s2
 have ne4 := ne_new n1 s0
 have lo2 := F0.lo1 n1
 have s4 := hF1.keep s1 (by simp)
 have s5 := hF1.keep s2 (by simp)
 have s6 := hF1.keep s0 (by simp)
 have t1 := t0.keep hF1 (by simp)
 have F1 := F0.andThen hF1 Lo.nil
 refine sn rfl <| R.done (hK1 _ _ (SW.seqK fun K2 hK2 => ?_))
 obtain ⟨J2, eJ0, hM⟩ := jn_elim hM
 have hJ0 : ∀ (vh : Int) (vi : List SInstr) (vj : List (Int × Int)) (v0 : List Int) (tk0 : Tk) (env0 : Env) (σ2 : St), Fr σ_0 σ2 ([a_0] ++ [a_1] ++ tkNames tko0c2_0) → env0.get 0 = some (.ptr a_0 0) → env0.get 3 = some (.ptr a0 0) → env0.get 5 = some (.ref a1 0 (((p_1.kids.length : Int) : Int).toNat) cp0) → σ2 a_0 = some (.cells [(.mp a_1), (I vh), (LInstr vi tk0)]) → σ2 a_1 = some (.map (List.map (fun e_ => ((AV.int .i64) e_.1, (AV.int .i64) e_.2)) vj)) → σ2 a0 = some (.cells (cTerm p_1)) → σ2 a1 = some (.cells (flat (AV.int .i64) v0)) → v0.length = ((p_1.kids.length : Int) : Int).toNat → TokOk σ2 tk0 vi.length 4 → Lo σ_0 ([a_0] ++ [a_1] ++ tkNames tko0c2_0) (tkNames tk0) → J2 vh vi vj v0 = some r → K2 env0 σ2 := by
  intro vh vi vj v0 tk0 env0 σ2 F2 h0 h1 h2 s7 s8 s9 sa al0 t2 lo3 hM
  subst eJ0
  refine hK2 _ _ <| SW.seqR fun K3 hK3 => mv h0 ?_
  obtain ⟨z3, hr0, hM⟩ := bd hM
  refine cl rfl (oc rfl on) (AC.go (r_i_coding_slot f a_0 vh vi tk0 a_1 vj z3 hr0 _ s7 s8 ne_0_1) (LeL.refl _) (StLe.refl _) fun v_ σ3 hp_ => ?_)
  obtain ⟨rfl, sb, hF2⟩ := hp_
  have sc := hF2.keep s8 (m1 (Ne.symm ne_0_1))
  have sd := hF2.keep s9 (m1 (Ne.symm ne0))
  have se := hF2.keep sa (m1 (Ne.symm ne2))
  have t3 := t2.keep hF2 (not1 (tok_cells t2 s7))
  have F3 := F2.andThen hF2 (Lo.mem fun j_ hj_ => (ml _ (ml _ hj_)))
  refine sn rfl <| R.done (hK3 _ _ (SW.seqR fun K4 hK4 => mv h0 (fp ti25 rfl h1 rfl (by decide) (ld ti23 rfl sd rfl (R.op rfl (a_lenImm ti23 rfl rfl (n := (p_1.kids.length : Int)) (by simp) (mv rfl (fp ti25 rfl h1 rfl (by decide) (ld ti9 rfl sd rfl (R.op rfl (a_build (cs := [(I 7), (I (p_1.kids.length : Int)), (I z3.1), (.str p_1.name)]) ti57 rfl rfl (pc rfl (pc rfl (pc rfl (pc rfl pn)))) rfl ?_)))))))))))
  obtain ⟨z4, hr1, hM⟩ := bd hM
  refine cl rfl (oc rfl (oc rfl on)) (AC.go (r_i_coding_add f (SInstr.mk 7 (p_1.kids.length : Int) z3.1 p_1.name) a_0 z3.2 vi tk0 a_1 vj z4 hr1 _ sb sc (t3.len (by first | rfl | simp)) ne_0_1) (LeL.refl _) (StLe.refl _) fun v_ σ4 hp_ => ?_)
  obtain ⟨tk1, rfl, sf, t4, nn0, hF3⟩ := hp_
  have lo4 := Lo.call F3 (Lo.app (Lo.mem fun j_ hj_ => (ml _ (ml _ hj_))) lo3) nn0
  have sg := hF3.keep sc (mA (m1 (Ne.symm ne_0_1)) (tok_map t3 sc))
  have sh := hF3.keep sd (mA (m1 (Ne.symm ne0)) (tok_cells t3 sd))
  have sj := hF3.keep se (mA (m1 (Ne.symm ne2)) (tok_cells t3 se))
  have F4 := F3.andThen hF3 (Lo.app (Lo.mem fun j_ hj_ => (ml _ (ml _ hj_))) lo3)
  refine R.done (hK4 _ _ (SW.seqK fun K5 hK5 => ?_))
  obtain ⟨J0, eJ1, hM⟩ := jn_elim hM
  have hJ1 : ∀ (vk : List (Int × Int)) (vl : Int) (vm : List SInstr) (tk2 : Tk) (env1 : Env) (σ5 : St), Fr σ_0 σ5 ([a_0] ++ [a_1] ++ tkNames tko0c2_0) → env1.get 8 = some (I z3.1) → σ5 a_1 = some (.map (List.map (fun e_ => ((AV.int .i64) e_.1, (AV.int .i64) e_.2)) vk)) → σ5 a1 = some (.cells (flat (AV.int .i64) v0)) → σ5 a_0 = some (.cells [(.mp a_1), (I vl), (LInstr vm tk2)]) → TokOk σ5 tk2 vm.length 4 → Lo σ_0 ([a_0] ++ [a_1] ++ tkNames tko0c2_0) (tkNames tk2) → J0 vk vl vm = some r → K5 env1 σ5 := by
   intro vk vl vm tk2 env1 σ5 F5 h3 sk sl sm t5 lo5 hM
   subst eJ1
   refine hK5 _ _ <| SW.seqR fun K6 hK6 => mv h3 <| sn rfl <| R.done (hK6 _ _ (SW.ret ?_))
   obtain rfl := si hM
   exact ret_of (rc rfl rn) (I z3.1) _ (Le.refl _) (StLe.refl _) ⟨tk2, rfl, sm, sk, (t5.len (by first | rfl | simp)), lo5.nn, F5⟩
  clear eJ1
  refine SW.seqR fun K7 hK7 => fp ti25 rfl h1 rfl (by decide) <| ld ti23 rfl sh rfl <| R.op rfl (a_lenImm ti23 rfl rfl (n := (p_1.kids.length : Int)) (by simp) (mv rfl (R.done (hK7 _ _ (SW.block (SW.loop (LW.ind (I := fun n2 env2 σ6 => ∃ (v1 : Int) (v2 : List (Int × Int)) (v3 : Int) (v4 : List SInstr) (tk3 : Tk), Fr σ_0 σ6 ([a_0] ++ [a_1] ++ tkNames tko0c2_0) ∧ env2.get 0 = some (.ptr a_0 0) ∧ env2.get 5 = some (.ref a1 0 (((p_1.kids.length : Int) : Int).toNat) cp0) ∧ env2.get 8 = some (I z3.1) ∧ env2.get 45 = some (LTerm p_1.kids .no) ∧ env2.get 46 = some (I (p_1.kids.length : Int)) ∧ env2.get 47 = some (I v1) ∧ σ6 a_1 = some (.map (List.map (fun e_ => ((AV.int .i64) e_.1, (AV.int .i64) e_.2)) v2)) ∧ σ6 a1 = some (.cells (flat (AV.int .i64) v0)) ∧ σ6 a_0 = some (.cells [(.mp a_1), (I v3), (LInstr v4 tk3)]) ∧ TokOk σ6 tk3 v4.length 4 ∧ Lo σ_0 ([a_0] ++ [a_1] ++ tkNames tko0c2_0) (tkNames tk3) ∧ L_i_coding_build_1 f p_1 v0 J0 n2 v1 v2 v3 v4 = some r) ?_ f _ _ ⟨0, vj, z3.2, z4, tk1, F4, h0, h2, rfl, rfl, rfl, rfl, sg, sj, sf, (t4.len (by first | rfl | simp)), lo4, hM⟩)))))))
  rintro n2 env2 σ6 ⟨v1, v2, v3, v4, tk3, F6, h4, h5, h6, h7, h8, h9, so, sp, sq, t6, lo6, hM⟩
  cases n2 with
  | zero => (rw [L_i_coding_build_1] at hM; cases hM)
  | succ n2 =>
   rw [L_i_coding_build_1] at hM
   refine SW.seqR fun K8 hK8 => it h9 h8 rfl <| R.done (hK8 _ _ (SW.seq (SW.cond rfl (fun hb0 => ?_) (fun hb0 => ?_))))
   · have hM := cT hb0 hM
     refine SW.skip <| SW.seqK fun K9 hK9 => ?_
     obtain ⟨J1, eJ2, hM⟩ := jn_elim hM
     have hJ2 : ∀ (v5 : List (Int × Int)) (v6 : Int) (v7 : List SInstr) (tk4 : Tk) (env3 : Env) (σ7 : St), Fr σ_0 σ7 ([a_0] ++ [a_1] ++ tkNames tko0c2_0) → env3.get 0 = some (.ptr a_0 0) → env3.get 5 = some (.ref a1 0 (((p_1.kids.length : Int) : Int).toNat) cp0) → env3.get 8 = some (I z3.1) → env3.get 45 = some (LTerm p_1.kids .no) → env3.get 46 = some (I (p_1.kids.length : Int)) → env3.get 47 = some (I v1) → σ7 a_1 = some (.map (List.map (fun e_ => ((AV.int .i64) e_.1, (AV.int .i64) e_.2)) v5)) → σ7 a1 = some (.cells (flat (AV.int .i64) v0)) → σ7 a_0 = some (.cells [(.mp a_1), (I v6), (LInstr v7 tk4)]) → TokOk σ7 tk4 v7.length 4 → Lo σ_0 ([a_0] ++ [a_1] ++ tkNames tko0c2_0) (tkNames tk4) → J1 v5 v6 v7 = some r → K9 env3 σ7 := by
      intro v5 v6 v7 tk4 env3 σ7 F7 ha hb hc hd he hf sr ss st t7 lo7 hM
      subst eJ2
      refine hK9 _ _ <| SW.region <| it hf rfl rfl <| mv rfl <| R.done ?_
      exact ⟨n2, Nat.lt_succ_self _, (IntKind.wrap .i64 (v1 + 1)), v5, v6, v7, tk4, F7, ha, hb, hc, hd, he, rfl, sr, ss, st, (t7.len (by first | rfl | simp)), lo7, hM⟩
     clear eJ2
     refine SW.block <| SW.seqR fun Ka hKa => mv h9 ?_
     obtain ⟨hg2, hM⟩ := gd hM
     obtain ⟨x0, hx0, hM⟩ := bd hM
     refine R.op rfl (a_idxImm (f := eTerm) (xs := p_1.kids) (n := v1) (e := x0) (v := (.agg (cTerm x0))) ti23 rfl ti25 rfl h7 h9 (od hg2) hx0 (eTerm_eq x0) (li (v := (.agg (cTerm x0))) ti25 rfl rfl (alTerm fun a2 σ8 n3 su hF4 => ?_)))
     have ne5 := ne_new n3 so
     have ne6 := ne_new n3 sp
     have ne7 := ne_new n3 sq
     have lo8 := F6.lo1 n3
     have sv := hF4.keep so (by simp)
     have sw := hF4.keep sp (by simp)
     have sx := hF4.keep sq (by simp)
     have t8 := t6.keep hF4 (by simp)
     have F8 := F6.andThen hF4 Lo.nil
     refine sn rfl <| R.op rfl (a_store (cs' := (cTerm x0)) ti25 rfl rfl su rfl (nb rfl) rfl rfl fun σ9 sy hF5 => ?_)
     have s10 := hF5.keep sv (m1 ne5)
     have s11 := hF5.keep sw (m1 ne6)
     have s12 := hF5.keep sx (m1 ne7)
     have t9 := t8.keep hF5 (not1 (tok_cells t8 su))
     have F9 := F8.andThen hF5 lo8
     refine R.done (hKa _ _ (SW.seqR fun Kb hKb => fp ti25 rfl rfl rfl (by decide) (ld ti3 rfl sy rfl (it rfl rfl rfl (R.done (hKb _ _ (SW.cond rfl (fun hb1 => ?_) (fun hb1 => ?_))))))))
     · have hM := cT hb1 hM
       refine SW.region <| mv h4 <| mv h5 <| mv rfl ?_
       obtain ⟨x1, hx1, hM⟩ := bd hM
       refine R.op rfl (a_idxRef (xs := v0) (sz := 1) (k := v1) (e := x1) ti76 rfl ti3 rfl rfl rfl (od hg2) al0 hx1 (ld (v := (I x1)) ti3 rfl s11 (lod_elem (El.int .i64) rfl rfl hx1 rfl) (R.op rfl (a_build (cs := [(I 5), (I x1), (I 0), (.str (⟨#[]⟩ : ByteArray))]) ti57 rfl rfl (pc rfl (pc rfl pn)) rfl ?_))))
       obtain ⟨z0, hr2, hM⟩ := bd hM
       refine cl rfl (oc rfl (oc rfl on)) (AC.go (r_i_coding_add f (SInstr.mk 5 x1 0 (⟨#[]⟩ : ByteArray)) a_0 v3 v4 tk3 a_1 v2 z0 hr2 _ s12 s10 (t9.len (by first | rfl | simp)) ne_0_1) (LeL.refl _) (StLe.refl _) fun v_ σa hp_ => ?_)
       obtain ⟨tk5, rfl, s13, ta, nn1, hF6⟩ := hp_
       have lo9 := Lo.call F9 (Lo.app (Lo.mem fun j_ hj_ => (ml _ (ml _ hj_))) lo6) nn1
       have s14 := hF6.keep s10 (mA (m1 (Ne.symm ne_0_1)) (tok_map t9 s10))
       have s15 := hF6.keep s11 (mA (m1 (Ne.symm ne2)) (tok_cells t9 s11))
       have s16 := hF6.keep sy (mA (m1 (Ne.symm ne7)) (tok_cells t9 sy))
       have Fa := F9.andThen hF6 (Lo.app (Lo.mem fun j_ hj_ => (ml _ (ml _ hj_))) lo6)
       refine R.done ?_
       exact hJ2 v2 v3 z0 tk5 _ _ Fa h4 h5 h6 h7 h8 h9 s14 s15 s13 (ta.len (by first | rfl | simp)) lo9 hM
     · have hM := cF hb1 hM
       refine SW.region <| mv h4 <| ld (v := (.agg (cTerm x0))) ti25 rfl sy rfl ?_
       obtain ⟨z1, hr3, hM⟩ := bd hM
       refine cl rfl (oc rfl (oc rfl on)) (AC.go (r_i_coding_described f x0 a_0 v3 v4 tk3 a_1 v2 z1 hr3 _ s12 s10 (t9.len (by first | rfl | simp)) ne_0_1) (LeL.refl _) (StLe.refl _) fun v_ σb hp_ => ?_)
       obtain ⟨tk6, rfl, s17, s18, tb, nn2, hF7⟩ := hp_
       have loa := Lo.call F9 (Lo.app (Lo.app (Lo.mem fun j_ hj_ => (ml _ (ml _ hj_))) (Lo.mem fun j_ hj_ => (ml _ (List.mem_append_right _ hj_)))) lo6) nn2
       have s19 := hF7.keep s11 (mA (mA (m1 (Ne.symm ne2)) (m1 (Ne.symm ne3))) (tok_cells t9 s11))
       have s1a := hF7.keep sy (mA (mA (m1 (Ne.symm ne7)) (m1 (Ne.symm ne5))) (tok_cells t9 sy))
       have Fb := F9.andThen hF7 (Lo.app (Lo.app (Lo.mem fun j_ hj_ => (ml _ (ml _ hj_))) (Lo.mem fun j_ hj_ => (ml _ (List.mem_append_right _ hj_)))) lo6)
       refine R.done ?_
       exact hJ2 z1.2.2 z1.1 z1.2.1 tk6 _ _ Fb h4 h5 h6 h7 h8 h9 s18 s19 s17 (tb.len (by first | rfl | simp)) loa hM
   · have hM := cF hb0 hM
     refine SW.exit <| Qte <| Qte <| Qbx ?_
     exact hJ1 v2 v3 v4 tk3 _ _ F6 h6 so sp sq (t6.len (by first | rfl | simp)) lo6 hM
 clear eJ0
 refine SW.seqR fun Kc hKc => fp ti25 rfl rfl rfl (by decide) <| ld ti23 rfl s6 rfl <| R.op rfl (a_lenImm ti23 rfl rfl (n := (p_1.kids.length : Int)) (by simp) (mv rfl (R.done (hKc _ _ (SW.block (SW.loop (LW.ind (I := fun n4 env4 σc => ∃ (v8 : Int) (v9 : Int) (va : List SInstr) (vb : List (Int × Int)) (vc : List Int) (tk7 : Tk), Fr σ_0 σc ([a_0] ++ [a_1] ++ tkNames tko0c2_0) ∧ env4.get 0 = some (.ptr a_0 0) ∧ env4.get 3 = some (.ptr a0 0) ∧ env4.get 5 = some (.ref a1 0 (((p_1.kids.length : Int) : Int).toNat) cp0) ∧ env4.get 16 = some (LTerm p_1.kids .no) ∧ env4.get 17 = some (I (p_1.kids.length : Int)) ∧ env4.get 18 = some (I v8) ∧ σc a_0 = some (.cells [(.mp a_1), (I v9), (LInstr va tk7)]) ∧ σc a_1 = some (.map (List.map (fun e_ => ((AV.int .i64) e_.1, (AV.int .i64) e_.2)) vb)) ∧ σc a0 = some (.cells (cTerm p_1)) ∧ σc a1 = some (.cells (flat (AV.int .i64) vc)) ∧ vc.length = ((p_1.kids.length : Int) : Int).toNat ∧ TokOk σc tk7 va.length 4 ∧ Lo σ_0 ([a_0] ++ [a_1] ++ tkNames tko0c2_0) (tkNames tk7) ∧ L_i_coding_build_2 c_i_coding_build p_1 J2 n4 v8 v9 va vb vc = some r) ?_ f _ _ ⟨0, o0c1_0, o0c2_0, o1m_0, (List.replicate ((p_1.kids.length : Int) : Int).toNat 0), tko0c2_0, F1, rfl, rfl, rfl, rfl, rfl, rfl, s4, s5, s6, s3, List.length_replicate, (t1.len (by first | rfl | simp)), (Lo.mem fun j_ hj_ => (List.mem_append_right _ hj_)), hM⟩)))))))
 rintro n4 env4 σc ⟨v8, v9, va, vb, vc, tk7, Fc, hg, hh, hi, hj, hk, hl, s1b, s1c, s1d, s1e, al1, tc, lob, hM⟩
 cases n4 with
 | zero => (rw [L_i_coding_build_2] at hM; cases hM)
 | succ n4 =>
  rw [L_i_coding_build_2] at hM
  refine SW.seqR fun Kd hKd => it hl hk rfl <| R.done (hKd _ _ (SW.seq (SW.cond rfl (fun hb2 => ?_) (fun hb2 => ?_))))
  · have hM := cT hb2 hM
    refine SW.skip <| SW.seqK fun Ke hKe => ?_
    obtain ⟨J3, eJ3, hM⟩ := jn_elim hM
    have hJ3 : ∀ (vd : Int) (ve : List SInstr) (vf : List (Int × Int)) (vg : List Int) (tk8 : Tk) (env5 : Env) (σd : St), Fr σ_0 σd ([a_0] ++ [a_1] ++ tkNames tko0c2_0) → env5.get 0 = some (.ptr a_0 0) → env5.get 3 = some (.ptr a0 0) → env5.get 5 = some (.ref a1 0 (((p_1.kids.length : Int) : Int).toNat) cp0) → env5.get 16 = some (LTerm p_1.kids .no) → env5.get 17 = some (I (p_1.kids.length : Int)) → env5.get 18 = some (I v8) → σd a_0 = some (.cells [(.mp a_1), (I vd), (LInstr ve tk8)]) → σd a_1 = some (.map (List.map (fun e_ => ((AV.int .i64) e_.1, (AV.int .i64) e_.2)) vf)) → σd a0 = some (.cells (cTerm p_1)) → σd a1 = some (.cells (flat (AV.int .i64) vg)) → vg.length = ((p_1.kids.length : Int) : Int).toNat → TokOk σd tk8 ve.length 4 → Lo σ_0 ([a_0] ++ [a_1] ++ tkNames tko0c2_0) (tkNames tk8) → J3 vd ve vf vg = some r → Ke env5 σd := by
     intro vd ve vf vg tk8 env5 σd Fd hm hn ho hp hq hr s1f s1g s1h s1i al2 td loc hM
     subst eJ3
     refine hKe _ _ <| SW.region <| it hr rfl rfl <| mv rfl <| R.done ?_
     exact ⟨n4, Nat.lt_succ_self _, (IntKind.wrap .i64 (v8 + 1)), vd, ve, vf, vg, tk8, Fd, hm, hn, ho, hp, hq, rfl, s1f, s1g, s1h, s1i, al2, (td.len (by first | rfl | simp)), loc, hM⟩
    clear eJ3
    refine SW.block <| SW.seqR fun Kf hKf => mv hl ?_
    obtain ⟨hg3, hM⟩ := gd hM
    obtain ⟨x2, hx2, hM⟩ := bd hM
    refine R.op rfl (a_idxImm (f := eTerm) (xs := p_1.kids) (n := v8) (e := x2) (v := (.agg (cTerm x2))) ti23 rfl ti25 rfl hj hl (od hg3) hx2 (eTerm_eq x2) (li (v := (.agg (cTerm x2))) ti25 rfl rfl (alTerm fun a3 σe n5 s1j hF8 => ?_)))
    have ne8 := ne_new n5 s1b
    have ne9 := ne_new n5 s1c
    have nea := ne_new n5 s1d
    have neb := ne_new n5 s1e
    have lod := Fc.lo1 n5
    have s1k := hF8.keep s1b (by simp)
    have s1l := hF8.keep s1c (by simp)
    have s1m := hF8.keep s1d (by simp)
    have s1n := hF8.keep s1e (by simp)
    have te := tc.keep hF8 (by simp)
    have Fe := Fc.andThen hF8 Lo.nil
    refine sn rfl <| R.op rfl (a_store (cs' := (cTerm x2)) ti25 rfl rfl s1j rfl (nb rfl) rfl rfl fun σf s1o hF9 => ?_)
    have s1p := hF9.keep s1k (m1 ne8)
    have s1q := hF9.keep s1l (m1 ne9)
    have s1r := hF9.keep s1m (m1 nea)
    have s1s := hF9.keep s1n (m1 neb)
    have tf := te.keep hF9 (not1 (tok_cells te s1j))
    have Ff := Fe.andThen hF9 lod
    refine R.done (hKf _ _ (SW.seqR fun Kg hKg => fp ti25 rfl rfl rfl (by decide) (ld ti3 rfl s1o rfl (it rfl rfl rfl (R.done (hKg _ _ (SW.cond rfl (fun hb3 => ?_) (fun hb3 => ?_))))))))
    · have hM := cT hb3 hM
      refine SW.region <| mv hi <| mv rfl <| mv hg <| ld (v := (.agg (cTerm x2))) ti25 rfl s1o rfl ?_
      obtain ⟨z2, hr4, hM⟩ := bd hM
      refine cl rfl (oc rfl (oc rfl on)) (AC.go (ih_i_coding_build x2 a_0 v9 va tk7 a_1 vb z2 hr4 _ s1p s1q (tf.len (by first | rfl | simp)) ne_0_1) (LeL.refl _) (StLe.refl _) fun v_ σg hp_ => ?_)
      obtain ⟨tk9, rfl, s1t, s1u, tg, nn3, hFa⟩ := hp_
      have loe := Lo.call Ff (Lo.app (Lo.app (Lo.mem fun j_ hj_ => (ml _ (ml _ hj_))) (Lo.mem fun j_ hj_ => (ml _ (List.mem_append_right _ hj_)))) lob) nn3
      have s1v := hFa.keep s1r (mA (mA (m1 (Ne.symm ne0)) (m1 (Ne.symm ne1))) (tok_cells tf s1r))
      have s1w := hFa.keep s1s (mA (mA (m1 (Ne.symm ne2)) (m1 (Ne.symm ne3))) (tok_cells tf s1s))
      have s1x := hFa.keep s1o (mA (mA (m1 (Ne.symm ne8)) (m1 (Ne.symm ne9))) (tok_cells tf s1o))
      have Fg := Ff.andThen hFa (Lo.app (Lo.app (Lo.mem fun j_ hj_ => (ml _ (ml _ hj_))) (Lo.mem fun j_ hj_ => (ml _ (List.mem_append_right _ hj_)))) lob)
      obtain ⟨x3, hx3, hM⟩ := bd hM
      refine R.op rfl (a_idxRef (xs := vc) (sz := 1) (k := v8) (e := x3) ti76 rfl ti3 rfl rfl rfl (od hg3) al1 hx3 (R.op rfl (a_store (v := (I z2.1)) (cs' := flat (AV.int .i64) (List.set vc (v8 : Int).toNat z2.1)) ti3 rfl rfl s1w rfl (flat_bound0 (El.int .i64) hx3 (by decide)) rfl (splice_elem (El.int .i64) hx3 rfl) fun σh s1y hFb => ?_)))
      have s1z := hFb.keep s1v (m1 ne4)
      have s20 := hFb.keep s1x (m1 (Ne.symm neb))
      have s21 := hFb.keep s1t (m1 ne2)
      have s22 := hFb.keep s1u (m1 ne3)
      have th := tg.keep hFb (not1 (tok_cells tg s1w))
      have Fh := Fg.andThen hFb lo2
      refine R.done ?_
      exact hJ3 z2.2.1 z2.2.2.1 z2.2.2.2 (List.set vc (v8 : Int).toNat z2.1) tk9 _ _ Fh hg hh hi hj hk hl s21 s22 s1z s1y (List.length_set.trans al1) (th.len (by first | rfl | simp)) loe hM
    · have hM := cF hb3 hM
      refine SW.skip ?_
      exact hJ3 v9 va vb vc tk7 _ _ Ff hg hh hi hj hk hl s1p s1q s1r s1s al1 (tf.len (by first | rfl | simp)) lob hM
  · have hM := cF hb2 hM
    refine SW.exit <| Qte <| Qte <| Qbx ?_
    exact hJ0 v9 va vb vc tk7 _ _ Fc hg hh hi s1b s1c s1d s1e al1 (tc.len (by first | rfl | simp)) lob hM

theorem rr_i_coding_build (f : Nat) : Q_i_coding_build (M_i_coding_build f) := by
 induction f with
 | zero => exact by intro p_1 a_0 o0c1_0 o0c2_0 tko0c2_0 a_1 o1m_0 r hM; rw [M_i_coding_build] at hM; cases hM
 | succ f ih => exact by intro p_1 a_0 o0c1_0 o0c2_0 tko0c2_0 a_1 o1m_0 r hM; rw [M_i_coding_build] at hM; exact b_i_coding_build f ih p_1 a_0 o0c1_0 o0c2_0 tko0c2_0 a_1 o1m_0 r hM

theorem r_i_coding_build (f : Nat) : Q_i_coding_build (M_i_coding_build f) := (rr_i_coding_build f)

def L_i_coding_goal_1 (f : Nat) (p_1 : STerm) (J0 : Int → List SInstr → List (Int × Int) → Option (Int × List SInstr × List (Int × Int))) : Nat → Int → Int → List SInstr → List (Int × Int) → Option (Int × List SInstr × List (Int × Int))
 | 0, _, _, _, _ => none
 | n + 1, v0, v1, v2, v3 =>
 bif decide (v0 < (p_1.kids.length : Int)) then (
 jn (fun (v4 : Int) (v5 : List SInstr) (v6 : List (Int × Int)) => (
 L_i_coding_goal_1 f p_1 J0 n (IntKind.wrap .i64 (v0 + 1)) v4 v5 v6
 )) fun J1 => (
 bif decide (0 ≤ v0) then
 Option.bind (p_1.kids[(v0 : Int).toNat]?) fun x0 =>
 bif (x0.kind == 2) then (
 Option.bind (M_i_coding_add f (SInstr.mk 10 x0.n v0 (⟨#[]⟩ : ByteArray)) v1 v2 v3) fun z0 =>
 J1 v1 z0 v3
 ) else (
 bif (x0.kind == 1) then (
 bif (tfind x0.n v3).isSome then (
 Option.bind (M_i_coding_add f (SInstr.mk 9 ((tfind x0.n v3).getD 0) v0 (⟨#[]⟩ : ByteArray)) v1 v2 v3) fun z1 =>
 J1 v1 z1 v3
 ) else (
 Option.bind (M_i_coding_slot f v1 v2 v3) fun z2 =>
 Option.bind (M_i_coding_add f (SInstr.mk 8 ((tfind x0.n (tset x0.n z2.1 v3)).getD 0) v0 (⟨#[]⟩ : ByteArray)) z2.2 v2 (tset x0.n z2.1 v3)) fun z3 =>
 J1 z2.2 z3 (tset x0.n z2.1 v3)
 )
 ) else (
 Option.bind (M_i_coding_build f x0 v1 v2 v3) fun z4 =>
 Option.bind (M_i_coding_add f (SInstr.mk 9 z4.1 v0 (⟨#[]⟩ : ByteArray)) z4.2.1 z4.2.2.1 z4.2.2.2) fun z5 =>
 J1 z4.2.1 z5 z4.2.2.2
 )
 )
 else none
 )
 ) else (
 J0 v1 v2 v3
 )

def M_i_coding_goal (f : Nat) (p_1 : STerm) (o0c1_0 : Int) (o0c2_0 : List SInstr) (o1m_0 : List (Int × Int)) : Option (Int × List SInstr × List (Int × Int)) :=
 Option.bind (M_i_isCut f p_1) fun z6 =>
 bif z6 then (
 Option.bind (M_i_coding_add f (SInstr.mk 13 0 0 (⟨#[]⟩ : ByteArray)) o0c1_0 o0c2_0 o1m_0) fun z7 =>
 some (o0c1_0, z7, o1m_0)
 ) else (
 jn (fun (v7 : Int) (v8 : List SInstr) (v9 : List (Int × Int)) => (
 jn (fun (va : Int) => (
 Option.bind (M_i_coding_add f (SInstr.mk va (p_1.kids.length : Int) 0 p_1.name) v7 v8 v9) fun z8 =>
 some (v7, z8, v9)
 )) fun J2 => (
 Option.bind (M_i_isBuilt f p_1) fun z9 =>
 bif z9 then (
 J2 12
 ) else (
 J2 11
 )
 )
 )) fun J0 => (
 L_i_coding_goal_1 f p_1 J0 f 0 o0c1_0 o0c2_0 o1m_0
 )
 )

theorem r_i_coding_goal (f : Nat) (p_1 : STerm) (a_0 : Nat) (o0c1_0 : Int) (o0c2_0 : List SInstr) (tko0c2_0 : Tk) (a_1 : Nat) (o1m_0 : List (Int × Int)) (r : Int × List SInstr × List (Int × Int)) (hM : M_i_coding_goal f p_1 o0c1_0 o0c2_0 o1m_0 = some r) (σ_0 : St) (s_0 : σ_0 a_0 = some (.cells [(.mp a_1), (I o0c1_0), (LInstr o0c2_0 tko0c2_0)])) (s_1 : σ_0 a_1 = some (.map (List.map (fun e_ => ((AV.int .i64) e_.1, (AV.int .i64) e_.2)) o1m_0))) (to0c2_0 : TokOk σ_0 tko0c2_0 o0c2_0.length 4) (ne_0_1 : a_0 ≠ a_1) : AC Tryz.prog 110 [(.ptr a_0 0), (.agg (cTerm p_1))] σ_0 (fun v s => ∃ (tkr_0 : Tk), v = (.tup []) ∧ s a_0 = some (.cells [(.mp a_1), (I r.1), (LInstr r.2.1 tkr_0)]) ∧ s a_1 = some (.map (List.map (fun e_ => ((AV.int .i64) e_.1, (AV.int .i64) e_.2)) r.2.2)) ∧ TokOk s tkr_0 r.2.1.length 4 ∧ (∀ i ∈ tkNames tkr_0, i ∈ ([a_0] ++ [a_1] ++ tkNames tko0c2_0) ∨ σ_0 i = none) ∧ Fr σ_0 s ([a_0] ++ [a_1] ++ tkNames tko0c2_0)) := by
 have F_0 := Fr.refl σ_0 ([a_0] ++ [a_1] ++ tkNames tko0c2_0)
 unfold M_i_coding_goal at hM
 refine AC.of_body Tryz.func110 rfl rfl (by rfl) (by simp [Tryz.f110]) <| SW.seqR fun K0 hK0 => R.op rfl (a_box (v := (.agg (cTerm p_1))) rfl rfl fun a0 σ0 n0 s0 hF0 => ?_)
 have ne0 := ne_new n0 s_0
 have ne1 := ne_new n0 s_1
 have lo0 := F_0.lo1 n0
 have s1 := hF0.keep s_0 (by simp)
 have s2 := hF0.keep s_1 (by simp)
 have t0 := to0c2_0.keep hF0 (by simp)
 have F0 := F_0.andThen hF0 Lo.nil
 refine R.done (hK0 _ _ (SW.seq (SW.seqR fun K1 hK1 => ld (v := (.agg (cTerm p_1))) ti25 rfl s0 rfl ?_)))
 obtain ⟨z6, hr0, hM⟩ := bd hM
 refine cp (r_i_isCut f p_1 z6 hr0 _) rfl (oc rfl on) (LeL.refl _) <| R.done (hK1 _ _ (SW.cond rfl (fun hb0 => ?_) (fun hb0 => ?_)))
 · have hM := cT hb0 hM
   refine SW.seqR fun K2 hK2 => mv rfl <| R.op rfl (a_build (cs := [(I 13), (I 0), (I 0), (.str (⟨#[]⟩ : ByteArray))]) ti57 rfl rfl (pc rfl pn) rfl ?_)
   obtain ⟨z7, hr1, hM⟩ := bd hM
   refine cl rfl (oc rfl (oc rfl on)) (AC.go (r_i_coding_add f (SInstr.mk 13 0 0 (⟨#[]⟩ : ByteArray)) a_0 o0c1_0 o0c2_0 tko0c2_0 a_1 o1m_0 z7 hr1 _ s1 s2 (t0.len (by first | rfl | simp)) ne_0_1) (LeL.refl _) (StLe.refl _) fun v_ σ1 hp_ => ?_)
   obtain ⟨tk0, rfl, s3, t1, nn0, hF1⟩ := hp_
   have lo2 := Lo.call F0 (Lo.app (Lo.mem fun j_ hj_ => (ml _ (ml _ hj_))) (Lo.mem fun j_ hj_ => (List.mem_append_right _ hj_))) nn0
   have s4 := hF1.keep s2 (mA (m1 (Ne.symm ne_0_1)) (tok_map t0 s2))
   have F1 := F0.andThen hF1 (Lo.app (Lo.mem fun j_ hj_ => (ml _ (ml _ hj_))) (Lo.mem fun j_ hj_ => (List.mem_append_right _ hj_)))
   refine R.done (hK2 _ _ (SW.ret (Qt ?_)))
   obtain rfl := si hM
   exact ret_of rn (.tup []) _ (Le.refl _) (StLe.refl _) ⟨tk0, rfl, s3, s4, (t1.len (by first | rfl | simp)), lo2.nn, F1⟩
 · have hM := cF hb0 hM
   refine SW.skip <| SW.seqK fun K3 hK3 => ?_
   obtain ⟨J0, eJ0, hM⟩ := jn_elim hM
   have hJ0 : ∀ (v7 : Int) (v8 : List SInstr) (v9 : List (Int × Int)) (tk1 : Tk) (env0 : Env) (σ2 : St), Fr σ_0 σ2 ([a_0] ++ [a_1] ++ tkNames tko0c2_0) → env0.get 0 = some (.ptr a_0 0) → env0.get 3 = some (.ptr a0 0) → σ2 a_0 = some (.cells [(.mp a_1), (I v7), (LInstr v8 tk1)]) → σ2 a_1 = some (.map (List.map (fun e_ => ((AV.int .i64) e_.1, (AV.int .i64) e_.2)) v9)) → σ2 a0 = some (.cells (cTerm p_1)) → TokOk σ2 tk1 v8.length 4 → Lo σ_0 ([a_0] ++ [a_1] ++ tkNames tko0c2_0) (tkNames tk1) → J0 v7 v8 v9 = some r → K3 env0 σ2 := by
    intro v7 v8 v9 tk1 env0 σ2 F2 h0 h1 s5 s6 s7 t2 lo3 hM
    subst eJ0
    refine hK3 _ _ <| SW.seqR fun K4 hK4 => sn rfl <| R.done (hK4 _ _ (SW.seqK fun K5 hK5 => ?_))
    obtain ⟨J2, eJ1, hM⟩ := jn_elim hM
    have hJ1 : ∀ (va : Int) (env1 : Env) (σ3 : St), Fr σ_0 σ3 ([a_0] ++ [a_1] ++ tkNames tko0c2_0) → env1.get 0 = some (.ptr a_0 0) → env1.get 3 = some (.ptr a0 0) → env1.get 9 = some (I va) → σ3 a_0 = some (.cells [(.mp a_1), (I v7), (LInstr v8 tk1)]) → σ3 a_1 = some (.map (List.map (fun e_ => ((AV.int .i64) e_.1, (AV.int .i64) e_.2)) v9)) → σ3 a0 = some (.cells (cTerm p_1)) → TokOk σ3 tk1 v8.length 4 → J2 va = some r → K5 env1 σ3 := by
     intro va env1 σ3 F3 h2 h3 h4 s8 s9 sa t3 hM
     subst eJ1
     refine hK5 _ _ <| SW.region <| mv h2 <| mv h4 <| fp ti25 rfl h3 rfl (by decide) <| ld ti23 rfl sa rfl <| R.op rfl (a_lenImm ti23 rfl rfl (n := (p_1.kids.length : Int)) (by simp) (fp ti25 rfl h3 rfl (by decide) (ld ti9 rfl sa rfl (R.op rfl (a_build (cs := [(I va), (I (p_1.kids.length : Int)), (I 0), (.str p_1.name)]) ti57 rfl rfl (pc rfl (pc rfl (pc rfl pn))) rfl ?_)))))
     obtain ⟨z8, hr2, hM⟩ := bd hM
     refine cl rfl (oc rfl (oc rfl on)) (AC.go (r_i_coding_add f (SInstr.mk va (p_1.kids.length : Int) 0 p_1.name) a_0 v7 v8 tk1 a_1 v9 z8 hr2 _ s8 s9 (t3.len (by first | rfl | simp)) ne_0_1) (LeL.refl _) (StLe.refl _) fun v_ σ4 hp_ => ?_)
     obtain ⟨tk2, rfl, sb, t4, nn1, hF2⟩ := hp_
     have lo4 := Lo.call F3 (Lo.app (Lo.mem fun j_ hj_ => (ml _ (ml _ hj_))) lo3) nn1
     have sc := hF2.keep s9 (mA (m1 (Ne.symm ne_0_1)) (tok_map t3 s9))
     have sd := hF2.keep sa (mA (m1 (Ne.symm ne0)) (tok_cells t3 sa))
     have F4 := F3.andThen hF2 (Lo.app (Lo.mem fun j_ hj_ => (ml _ (ml _ hj_))) lo3)
     refine R.done ?_
     obtain rfl := si hM
     show retQ _ _ _ .normal _ _
     exact end_of rn (.tup []) _ (Le.refl _) (StLe.refl _) ⟨tk2, rfl, sb, sc, (t4.len (by first | rfl | simp)), lo4.nn, F4⟩
    clear eJ1
    refine SW.seqR fun K6 hK6 => ld (v := (.agg (cTerm p_1))) ti25 h1 s7 rfl ?_
    obtain ⟨z9, hr3, hM⟩ := bd hM
    refine cp (r_i_isBuilt f p_1 z9 hr3 _) rfl (oc rfl on) (LeL.refl _) <| R.done (hK6 _ _ (SW.cond rfl (fun hb1 => ?_) (fun hb1 => ?_)))
    · have hM := cT hb1 hM
      refine SW.region <| sn rfl <| R.done ?_
      exact hJ1 12 _ _ F2 h0 h1 rfl s5 s6 s7 (t2.len (by first | rfl | simp)) hM
    · have hM := cF hb1 hM
      refine SW.skip ?_
      exact hJ1 11 _ _ F2 h0 h1 rfl s5 s6 s7 (t2.len (by first | rfl | simp)) hM
   clear eJ0
   refine SW.seqR fun K7 hK7 => fp ti25 rfl rfl rfl (by decide) <| ld ti23 rfl s0 rfl <| R.op rfl (a_lenImm ti23 rfl rfl (n := (p_1.kids.length : Int)) (by simp) (mv rfl (R.done (hK7 _ _ (SW.block (SW.loop (LW.ind (I := fun n1 env2 σ5 => ∃ (v0 : Int) (v1 : Int) (v2 : List SInstr) (v3 : List (Int × Int)) (tk3 : Tk), Fr σ_0 σ5 ([a_0] ++ [a_1] ++ tkNames tko0c2_0) ∧ env2.get 0 = some (.ptr a_0 0) ∧ env2.get 3 = some (.ptr a0 0) ∧ env2.get 16 = some (LTerm p_1.kids .no) ∧ env2.get 17 = some (I (p_1.kids.length : Int)) ∧ env2.get 18 = some (I v0) ∧ σ5 a_0 = some (.cells [(.mp a_1), (I v1), (LInstr v2 tk3)]) ∧ σ5 a_1 = some (.map (List.map (fun e_ => ((AV.int .i64) e_.1, (AV.int .i64) e_.2)) v3)) ∧ σ5 a0 = some (.cells (cTerm p_1)) ∧ TokOk σ5 tk3 v2.length 4 ∧ Lo σ_0 ([a_0] ++ [a_1] ++ tkNames tko0c2_0) (tkNames tk3) ∧ L_i_coding_goal_1 f p_1 J0 n1 v0 v1 v2 v3 = some r) ?_ f _ _ ⟨0, o0c1_0, o0c2_0, o1m_0, tko0c2_0, F0, rfl, rfl, rfl, rfl, rfl, s1, s2, s0, (t0.len (by first | rfl | simp)), (Lo.mem fun j_ hj_ => (List.mem_append_right _ hj_)), hM⟩)))))))
   rintro n1 env2 σ5 ⟨v0, v1, v2, v3, tk3, F5, h5, h6, h7, h8, h9, se, sf, sg, t5, lo5, hM⟩
   cases n1 with
   | zero => (rw [L_i_coding_goal_1] at hM; cases hM)
   | succ n1 =>
    rw [L_i_coding_goal_1] at hM
    refine SW.seqR fun K8 hK8 => it h9 h8 rfl <| R.done (hK8 _ _ (SW.seq (SW.cond rfl (fun hb2 => ?_) (fun hb2 => ?_))))
    · have hM := cT hb2 hM
      refine SW.skip <| SW.seqK fun K9 hK9 => ?_
      obtain ⟨J1, eJ2, hM⟩ := jn_elim hM
      have hJ2 : ∀ (v4 : Int) (v5 : List SInstr) (v6 : List (Int × Int)) (tk4 : Tk) (env3 : Env) (σ6 : St), Fr σ_0 σ6 ([a_0] ++ [a_1] ++ tkNames tko0c2_0) → env3.get 0 = some (.ptr a_0 0) → env3.get 3 = some (.ptr a0 0) → env3.get 16 = some (LTerm p_1.kids .no) → env3.get 17 = some (I (p_1.kids.length : Int)) → env3.get 18 = some (I v0) → σ6 a_0 = some (.cells [(.mp a_1), (I v4), (LInstr v5 tk4)]) → σ6 a_1 = some (.map (List.map (fun e_ => ((AV.int .i64) e_.1, (AV.int .i64) e_.2)) v6)) → σ6 a0 = some (.cells (cTerm p_1)) → TokOk σ6 tk4 v5.length 4 → Lo σ_0 ([a_0] ++ [a_1] ++ tkNames tko0c2_0) (tkNames tk4) → J1 v4 v5 v6 = some r → K9 env3 σ6 := by
       intro v4 v5 v6 tk4 env3 σ6 F6 ha hb hc hd he sh sj sk t6 lo6 hM
       subst eJ2
       refine hK9 _ _ <| SW.region <| it he rfl rfl <| mv rfl <| R.done ?_
       exact ⟨n1, Nat.lt_succ_self _, (IntKind.wrap .i64 (v0 + 1)), v4, v5, v6, tk4, F6, ha, hb, hc, hd, rfl, sh, sj, sk, (t6.len (by first | rfl | simp)), lo6, hM⟩
      clear eJ2
      refine SW.block <| SW.seqR fun Ka hKa => mv h9 ?_
      obtain ⟨hg0, hM⟩ := gd hM
      obtain ⟨x0, hx0, hM⟩ := bd hM
      refine R.op rfl (a_idxImm (f := eTerm) (xs := p_1.kids) (n := v0) (e := x0) (v := (.agg (cTerm x0))) ti23 rfl ti25 rfl h7 h9 (od hg0) hx0 (eTerm_eq x0) (li (v := (.agg (cTerm x0))) ti25 rfl rfl (alTerm fun a1 σ7 n2 sl hF3 => ?_)))
      have ne2 := ne_new n2 se
      have ne3 := ne_new n2 sf
      have ne4 := ne_new n2 sg
      have lo7 := F5.lo1 n2
      have sm := hF3.keep se (by simp)
      have so := hF3.keep sf (by simp)
      have sp := hF3.keep sg (by simp)
      have t7 := t5.keep hF3 (by simp)
      have F7 := F5.andThen hF3 Lo.nil
      refine sn rfl <| R.op rfl (a_store (cs' := (cTerm x0)) ti25 rfl rfl sl rfl (nb rfl) rfl rfl fun σ8 sq hF4 => ?_)
      have sr := hF4.keep sm (m1 ne2)
      have ss := hF4.keep so (m1 ne3)
      have st := hF4.keep sp (m1 ne4)
      have t8 := t7.keep hF4 (not1 (tok_cells t7 sl))
      have F8 := F7.andThen hF4 lo7
      refine R.done (hKa _ _ (SW.seqR fun Kb hKb => fp ti25 rfl rfl rfl (by decide) (ld ti3 rfl sq rfl (R.done (hKb _ _ (SW.block (SW.seqR fun Kc hKc => it rfl rfl rfl (sn rfl (R.done (hKc _ _ (SW.cond rfl (fun hb3 => ?_) (fun hb3 => ?_))))))))))))
      · have hM := cT hb3 hM
        refine SW.region <| mv h5 <| fp ti25 rfl rfl rfl (by decide) <| ld ti3 rfl sq rfl <| mv rfl <| R.op rfl (a_build (cs := [(I 10), (I x0.n), (I v0), (.str (⟨#[]⟩ : ByteArray))]) ti57 rfl rfl (pc rfl (pc rfl (pc rfl pn))) rfl ?_)
        obtain ⟨z0, hr4, hM⟩ := bd hM
        refine cl rfl (oc rfl (oc rfl on)) (AC.go (r_i_coding_add f (SInstr.mk 10 x0.n v0 (⟨#[]⟩ : ByteArray)) a_0 v1 v2 tk3 a_1 v3 z0 hr4 _ sr ss (t8.len (by first | rfl | simp)) ne_0_1) (LeL.refl _) (StLe.refl _) fun v_ σ9 hp_ => ?_)
        obtain ⟨tk5, rfl, su, t9, nn2, hF5⟩ := hp_
        have lo8 := Lo.call F8 (Lo.app (Lo.mem fun j_ hj_ => (ml _ (ml _ hj_))) lo5) nn2
        have sv := hF5.keep ss (mA (m1 (Ne.symm ne_0_1)) (tok_map t8 ss))
        have sw := hF5.keep st (mA (m1 (Ne.symm ne0)) (tok_cells t8 st))
        have sx := hF5.keep sq (mA (m1 (Ne.symm ne2)) (tok_cells t8 sq))
        have F9 := F8.andThen hF5 (Lo.app (Lo.mem fun j_ hj_ => (ml _ (ml _ hj_))) lo5)
        refine R.done ?_
        exact hJ2 v1 z0 v3 tk5 _ _ F9 h5 h6 h7 h8 h9 su sv sw (t9.len (by first | rfl | simp)) lo8 hM
      · have hM := cF hb3 hM
        refine SW.seqR fun Kd hKd => it rfl rfl rfl <| sn rfl <| R.done (hKd _ _ (SW.cond rfl (fun hb4 => ?_) (fun hb4 => ?_)))
        · have hM := cT hb4 hM
          refine SW.seqK fun Ke hKe => SW.draw' mixed [(0, false), (1, false), (2, false), (4, false), (3, false), (5, false), (6, false), (7, false), (8, false), (9, false), (10, false), (11, false)] [] [] (by kernel_rfl) (by kernel_rfl) (fun t ht => by simp at ht) <| D.op rfl rfl (a_move h5 (D.op rfl rfl (a_nilPtr rfl (D.op rfl rfl (a_fieldPtr ti134 rfl rfl rfl (by decide) (D.op rfl rfl (a_fieldPtr ti25 rfl rfl rfl (by decide) (D.op rfl rfl (a_loadPtr ti132 rfl sr rfl (D.op rfl rfl (a_loadPtr ti3 rfl sq rfl (D.op rfl rfl (a_lookupInt (ev := (AV.int .i64)) (k := x0.n) (z := 0) (v := (I ((tfind x0.n v3).getD 0))) ti132 rfl ti3 rfl ti3 rfl rfl rfl ss rfl (D.op rfl rfl (a_move rfl (D.op rfl rfl (a_extract rfl rfl (D.op rfl rfl (a_extract rfl rfl (D.op rfl rfl (a_assign rfl (D.op rfl rfl (a_assign rfl (D.done (hKe _ _ (SW.seqR fun Kf hKf => mv rfl ?_))))))))))))))))))))))))))
          refine R.done (hKf _ _ (SW.cond rfl (fun hb5 => ?_) (fun hb5 => ?_)))
          · have hM := cT hb5 hM
            refine SW.region <| mv h5 <| mv rfl <| mv rfl <| R.op rfl (a_build (cs := [(I 9), (I ((tfind x0.n v3).getD 0)), (I v0), (.str (⟨#[]⟩ : ByteArray))]) ti57 rfl rfl (pc rfl (pc rfl (pc rfl pn))) rfl ?_)
            obtain ⟨z1, hr5, hM⟩ := bd hM
            refine cl rfl (oc rfl (oc rfl on)) (AC.go (r_i_coding_add f (SInstr.mk 9 ((tfind x0.n v3).getD 0) v0 (⟨#[]⟩ : ByteArray)) a_0 v1 v2 tk3 a_1 v3 z1 hr5 _ sr ss (t8.len (by first | rfl | simp)) ne_0_1) (LeL.refl _) (StLe.refl _) fun v_ σa hp_ => ?_)
            obtain ⟨tk6, rfl, sy, ta, nn3, hF6⟩ := hp_
            have lo9 := Lo.call F8 (Lo.app (Lo.mem fun j_ hj_ => (ml _ (ml _ hj_))) lo5) nn3
            have sz := hF6.keep ss (mA (m1 (Ne.symm ne_0_1)) (tok_map t8 ss))
            have s10 := hF6.keep st (mA (m1 (Ne.symm ne0)) (tok_cells t8 st))
            have s11 := hF6.keep sq (mA (m1 (Ne.symm ne2)) (tok_cells t8 sq))
            have Fa := F8.andThen hF6 (Lo.app (Lo.mem fun j_ hj_ => (ml _ (ml _ hj_))) lo5)
            refine R.done ?_
            exact hJ2 v1 z1 v3 tk6 _ _ Fa h5 h6 h7 h8 h9 sy sz s10 (ta.len (by first | rfl | simp)) lo9 hM
          · have hM := cF hb5 hM
            refine SW.seqK fun Kg hKg => SW.draw' mixed [(0, false), (1, false), (2, false), (4, false), (6, false), (3, true), (5, true), (7, true), (8, false)] [(a_0, wLod ⟨1, 8, false, (some .nilm), (.map 3 3)⟩ 0 (.mp a_1)), (a1, wLod ⟨1, 8, false, (some (.int .i64 0)), (.int .i64)⟩ 1 (I x0.n))] [] (by kernel_rfl) (by kernel_rfl) (fun t ht => by simp at ht) <| D.op rfl rfl (a_move h5 (D.op rfl rfl (a_nilPtr rfl (D.op rfl rfl (a_fieldPtr ti134 rfl rfl rfl (by decide) (D.op rfl rfl (a_fieldPtr ti25 rfl rfl rfl (by decide) (D.op rfl rfl (a_move h5 (D.rd rfl rfl (wat_lod sr rfl (wat_lod sq rfl wat_nil)) (lk_load ti132 rfl (wat_lod sr rfl (wat_lod sq rfl wat_nil)) (.head _)) rfl (a_loadPtr ti132 rfl sr rfl (D.rd rfl rfl (wat_lod sr rfl (wat_lod sq rfl wat_nil)) (lk_load ti3 rfl (wat_lod sr rfl (wat_lod sq rfl wat_nil)) (.tail _ (.head _))) rfl (a_loadPtr ti3 rfl sq rfl ?_)))))))))))))
            obtain ⟨z2, hr6, hM⟩ := bd hM
            refine D.wk rfl rfl (wat_lod sr rfl (wat_lod sq rfl wat_nil)) rfl (a_call (g := 109) rfl (oc rfl on) (AC.go (r_i_coding_slot f a_0 v1 v2 tk3 a_1 v3 z2 hr6 _ sr ss ne_0_1) (LeL.refl _) (StLe.refl _) fun v_ σb hp_ => ?_))
            obtain ⟨rfl, s12, hF7⟩ := hp_
            have s13 := hF7.keep ss (m1 (Ne.symm ne_0_1))
            have s14 := hF7.keep st (m1 (Ne.symm ne0))
            have s15 := hF7.keep sq (m1 (Ne.symm ne2))
            have tb := t8.keep hF7 (not1 (tok_cells t8 sr))
            have Fb := F8.andThen hF7 (Lo.mem fun j_ hj_ => (ml _ (ml _ hj_)))
            refine ⟨(wat_lod s12 rfl (wat_lod s15 rfl wat_nil)), (D.op rfl rfl (a_mapUpdate (v := (I z2.1)) (es' := (List.map (fun e_ => ((AV.int .i64) e_.1, (AV.int .i64) e_.2)) (tset x0.n z2.1 v3))) ti132 rfl ti3 rfl rfl rfl s13 rfl (keys_int _) (mset_int _) fun σc s16 hF8 => ?_))⟩
            have s17 := hF8.keep s14 (m1 (Ne.symm ne1))
            have s18 := hF8.keep s15 (m1 (Ne.symm ne3))
            have s19 := hF8.keep s12 (m1 ne_0_1)
            have tc := tb.keep hF8 (not1 (tok_map tb s13))
            have Fc := Fb.andThen hF8 (Lo.mem fun j_ hj_ => (ml _ (List.mem_append_right _ hj_)))
            refine D.done (hKg _ _ (SW.draw' mixed [(0, false), (1, false), (2, false), (3, false), (5, false), (8, false), (4, false), (6, false), (7, false), (9, false), (10, false)] [] [] (by kernel_rfl) (by kernel_rfl) (fun t ht => by simp at ht) (D.op rfl rfl (a_move h5 (D.op rfl rfl (a_move h5 (D.op rfl rfl (a_nilPtr rfl (D.op rfl rfl (a_fieldPtr ti134 rfl rfl rfl (by decide) (D.op rfl rfl (a_fieldPtr ti25 rfl rfl rfl (by decide) (D.op rfl rfl (a_move rfl (D.op rfl rfl (a_loadPtr ti132 rfl s19 rfl (D.op rfl rfl (a_loadPtr ti3 rfl s18 rfl (D.op rfl rfl (a_lookupInt1 (ev := (AV.int .i64)) (k := x0.n) (z := 0) (v := (I ((tfind x0.n (tset x0.n z2.1 v3)).getD 0))) ti132 rfl ti3 rfl ti3 rfl rfl rfl s16 rfl (D.op rfl rfl (a_build (cs := [(I 8), (I ((tfind x0.n (tset x0.n z2.1 v3)).getD 0)), (I v0), (.str (⟨#[]⟩ : ByteArray))]) ti57 rfl rfl (pc rfl (pc rfl (pc rfl pn))) rfl ?_))))))))))))))))))))))
            obtain ⟨z3, hr7, hM⟩ := bd hM
            refine D.op rfl rfl (a_call (g := 107) rfl (oc rfl (oc rfl on)) (AC.go (r_i_coding_add f (SInstr.mk 8 ((tfind x0.n (tset x0.n z2.1 v3)).getD 0) v0 (⟨#[]⟩ : ByteArray)) a_0 z2.2 v2 tk3 a_1 (tset x0.n z2.1 v3) z3 hr7 _ s19 s16 (tc.len (by first | rfl | simp)) ne_0_1) (LeL.refl _) (StLe.refl _) fun v_ σd hp_ => ?_))
            obtain ⟨tk7, rfl, s1a, td, nn4, hF9⟩ := hp_
            have loa := Lo.call Fc (Lo.app (Lo.mem fun j_ hj_ => (ml _ (ml _ hj_))) lo5) nn4
            have s1b := hF9.keep s17 (mA (m1 (Ne.symm ne0)) (tok_cells tc s17))
            have s1c := hF9.keep s18 (mA (m1 (Ne.symm ne2)) (tok_cells tc s18))
            have s1d := hF9.keep s16 (mA (m1 (Ne.symm ne_0_1)) (tok_map tc s16))
            have Fd := Fc.andThen hF9 (Lo.app (Lo.mem fun j_ hj_ => (ml _ (ml _ hj_))) lo5)
            refine D.done ?_
            exact hJ2 z2.2 z3 (tset x0.n z2.1 v3) tk7 _ _ Fd h5 h6 h7 h8 h9 s1a s1d s1b (td.len (by first | rfl | simp)) loa hM
        · have hM := cF hb4 hM
          refine SW.seqR fun Kh hKh => mv h5 <| ld (v := (.agg (cTerm x0))) ti25 rfl sq rfl ?_
          obtain ⟨z4, hr8, hM⟩ := bd hM
          refine cl rfl (oc rfl (oc rfl on)) (AC.go (r_i_coding_build f x0 a_0 v1 v2 tk3 a_1 v3 z4 hr8 _ sr ss (t8.len (by first | rfl | simp)) ne_0_1) (LeL.refl _) (StLe.refl _) fun v_ σe hp_ => ?_)
          obtain ⟨tk8, rfl, s1e, s1f, te, nn5, hFa⟩ := hp_
          have lob := Lo.call F8 (Lo.app (Lo.app (Lo.mem fun j_ hj_ => (ml _ (ml _ hj_))) (Lo.mem fun j_ hj_ => (ml _ (List.mem_append_right _ hj_)))) lo5) nn5
          have s1g := hFa.keep st (mA (mA (m1 (Ne.symm ne0)) (m1 (Ne.symm ne1))) (tok_cells t8 st))
          have s1h := hFa.keep sq (mA (mA (m1 (Ne.symm ne2)) (m1 (Ne.symm ne3))) (tok_cells t8 sq))
          have Fe := F8.andThen hFa (Lo.app (Lo.app (Lo.mem fun j_ hj_ => (ml _ (ml _ hj_))) (Lo.mem fun j_ hj_ => (ml _ (List.mem_append_right _ hj_)))) lo5)
          refine sn rfl <| R.done (hKh _ _ (SW.region (mv h5 (mv rfl (mv rfl (R.op rfl (a_build (cs := [(I 9), (I z4.1), (I v0), (.str (⟨#[]⟩ : ByteArray))]) ti57 rfl rfl (pc rfl (pc rfl (pc rfl pn))) rfl ?_)))))))
          obtain ⟨z5, hr9, hM⟩ := bd hM
          refine cl rfl (oc rfl (oc rfl on)) (AC.go (r_i_coding_add f (SInstr.mk 9 z4.1 v0 (⟨#[]⟩ : ByteArray)) a_0 z4.2.1 z4.2.2.1 tk8 a_1 z4.2.2.2 z5 hr9 _ s1e s1f (te.len (by first | rfl | simp)) ne_0_1) (LeL.refl _) (StLe.refl _) fun v_ σf hp_ => ?_)
          obtain ⟨tk9, rfl, s1i, tf, nn6, hFb⟩ := hp_
          have loc := Lo.call Fe (Lo.app (Lo.mem fun j_ hj_ => (ml _ (ml _ hj_))) lob) nn6
          have s1j := hFb.keep s1g (mA (m1 (Ne.symm ne0)) (tok_cells te s1g))
          have s1k := hFb.keep s1h (mA (m1 (Ne.symm ne2)) (tok_cells te s1h))
          have s1l := hFb.keep s1f (mA (m1 (Ne.symm ne_0_1)) (tok_map te s1f))
          have Ff := Fe.andThen hFb (Lo.app (Lo.mem fun j_ hj_ => (ml _ (ml _ hj_))) lob)
          refine R.done ?_
          exact hJ2 z4.2.1 z5 z4.2.2.2 tk9 _ _ Ff h5 h6 h7 h8 h9 s1i s1l s1j (tf.len (by first | rfl | simp)) loc hM
    · have hM := cF hb2 hM
      refine SW.exit <| Qte <| Qte <| Qbx ?_
      exact hJ0 v1 v2 v3 tk3 _ _ F5 h5 h6 se sf sg (t5.len (by first | rfl | simp)) lo5 hM

def L_i_coding_body_1 (f : Nat) (p_1 : (List STerm)) (J0 : Int → List SInstr → List (Int × Int) → Option ((List SInstr) × Int × List SInstr × List (Int × Int))) : Nat → Int → Int → List SInstr → List (Int × Int) → Option ((List SInstr) × Int × List SInstr × List (Int × Int))
 | 0, _, _, _, _ => none
 | n + 1, v0, v1, v2, v3 =>
 bif decide (v0 < (p_1.length : Int)) then (
 bif decide (0 ≤ v0) then
 Option.bind (p_1[(v0 : Int).toNat]?) fun x0 =>
 Option.bind (M_i_coding_goal f x0 v1 v2 v3) fun z0 =>
 L_i_coding_body_1 f p_1 J0 n (IntKind.wrap .i64 (v0 + 1)) z0.1 z0.2.1 z0.2.2
 else none
 ) else (
 J0 v1 v2 v3
 )

def M_i_coding_body (f : Nat) (p_1 : (List STerm)) (o0c1_0 : Int) (o0c2_0 : List SInstr) (o1m_0 : List (Int × Int)) : Option ((List SInstr) × Int × List SInstr × List (Int × Int)) :=
 jn (fun (v4 : Int) (v5 : List SInstr) (v6 : List (Int × Int)) => (
 Option.bind (M_i_coding_add f (SInstr.mk 14 0 0 (⟨#[]⟩ : ByteArray)) v4 v5 v6) fun z1 =>
 some (z1, v4, z1, v6)
 )) fun J0 => (
 L_i_coding_body_1 f p_1 J0 f 0 o0c1_0 o0c2_0 o1m_0
 )

theorem r_i_coding_body (f : Nat) (p_1 : (List STerm)) (tk_1 : Tk) (a_0 : Nat) (o0c1_0 : Int) (o0c2_0 : List SInstr) (tko0c2_0 : Tk) (a_1 : Nat) (o1m_0 : List (Int × Int)) (r : (List SInstr) × Int × List SInstr × List (Int × Int)) (hM : M_i_coding_body f p_1 o0c1_0 o0c2_0 o1m_0 = some r) (σ_0 : St) (s_0 : σ_0 a_0 = some (.cells [(.mp a_1), (I o0c1_0), (LInstr o0c2_0 tko0c2_0)])) (s_1 : σ_0 a_1 = some (.map (List.map (fun e_ => ((AV.int .i64) e_.1, (AV.int .i64) e_.2)) o1m_0))) (to0c2_0 : TokOk σ_0 tko0c2_0 o0c2_0.length 4) (ne_0_1 : a_0 ≠ a_1) : AC Tryz.prog 69 [(.ptr a_0 0), (LTerm p_1 tk_1)] σ_0 (fun v s => ∃ (tkr_0 : Tk), v = (LInstr r.1 .no) ∧ s a_0 = some (.cells [(.mp a_1), (I r.2.1), (LInstr r.2.2.1 tkr_0)]) ∧ s a_1 = some (.map (List.map (fun e_ => ((AV.int .i64) e_.1, (AV.int .i64) e_.2)) r.2.2.2)) ∧ TokOk s tkr_0 r.2.2.1.length 4 ∧ (∀ i ∈ tkNames tkr_0, i ∈ ([a_0] ++ [a_1] ++ tkNames tko0c2_0) ∨ σ_0 i = none) ∧ Fr σ_0 s ([a_0] ++ [a_1] ++ tkNames tko0c2_0)) := by
 have F_0 := Fr.refl σ_0 ([a_0] ++ [a_1] ++ tkNames tko0c2_0)
 unfold M_i_coding_body at hM
 refine AC.of_body Tryz.func69 rfl rfl (by rfl) (by simp [Tryz.f69]) <| SW.seqR fun K0 hK0 => R.opLe rfl (a_assign (v := (.imm 0 [] .full)) rfl ⟨(LInstr ([] : List SInstr) .full), Le.empty' _ _ _ rfl, (R.done (hK0 _ _ (SW.seqK fun K1 hK1 => ?_)))⟩)
 obtain ⟨J0, eJ0, hM⟩ := jn_elim hM
 have hJ0 : ∀ (v4 : Int) (v5 : List SInstr) (v6 : List (Int × Int)) (tk0 : Tk) (env0 : Env) (σ0 : St), Fr σ_0 σ0 ([a_0] ++ [a_1] ++ tkNames tko0c2_0) → env0.get 0 = some (.ptr a_0 0) → σ0 a_0 = some (.cells [(.mp a_1), (I v4), (LInstr v5 tk0)]) → σ0 a_1 = some (.map (List.map (fun e_ => ((AV.int .i64) e_.1, (AV.int .i64) e_.2)) v6)) → TokOk σ0 tk0 v5.length 4 → Lo σ_0 ([a_0] ++ [a_1] ++ tkNames tko0c2_0) (tkNames tk0) → J0 v4 v5 v6 = some r → K1 env0 σ0 := by
  intro v4 v5 v6 tk0 env0 σ0 F0 h0 s0 s1 t0 lo0 hM
  subst eJ0
  refine hK1 _ _ <| SW.seqR fun K2 hK2 => mv h0 <| R.op rfl (a_build (cs := [(I 14), (I 0), (I 0), (.str (⟨#[]⟩ : ByteArray))]) ti57 rfl rfl (pc rfl pn) rfl ?_)
  obtain ⟨z1, hr0, hM⟩ := bd hM
  refine cl rfl (oc rfl (oc rfl on)) (AC.go (r_i_coding_add f (SInstr.mk 14 0 0 (⟨#[]⟩ : ByteArray)) a_0 v4 v5 tk0 a_1 v6 z1 hr0 _ s0 s1 (t0.len (by first | rfl | simp)) ne_0_1) (LeL.refl _) (StLe.refl _) fun v_ σ1 hp_ => ?_)
  obtain ⟨tk1, rfl, s2, t1, nn0, hF0⟩ := hp_
  have lo2 := Lo.call F0 (Lo.app (Lo.mem fun j_ hj_ => (ml _ (ml _ hj_))) lo0) nn0
  have s3 := hF0.keep s1 (mA (m1 (Ne.symm ne_0_1)) (tok_map t0 s1))
  have F1 := F0.andThen hF0 (Lo.app (Lo.mem fun j_ hj_ => (ml _ (ml _ hj_))) lo0)
  refine R.done (hK2 _ _ (SW.seqR fun K3 hK3 => mv h0 (np rfl (fp ti134 rfl rfl rfl (by decide) (ld ti31 rfl s2 rfl (sn rfl (R.done (hK3 _ _ (SW.ret ?_)))))))))
  obtain rfl := si hM
  exact ret_of (rc rfl rn) (LInstr z1 .no) _ (Le.tok _ _ _) (StLe.refl _) ⟨tk1, rfl, s2, s3, (t1.len (by first | rfl | simp)), lo2.nn, F1⟩
 clear eJ0
 refine SW.seqR fun K4 hK4 => mv rfl <| R.op rfl (a_lenImm ti23 rfl rfl (n := (p_1.length : Int)) (by simp) (mv rfl (R.done (hK4 _ _ (SW.block (SW.loop (LW.ind (I := fun n0 env1 σ2 => ∃ (v0 : Int) (v1 : Int) (v2 : List SInstr) (v3 : List (Int × Int)) (tk2 : Tk), Fr σ_0 σ2 ([a_0] ++ [a_1] ++ tkNames tko0c2_0) ∧ env1.get 0 = some (.ptr a_0 0) ∧ env1.get 7 = some (LTerm p_1 tk_1) ∧ env1.get 8 = some (I (p_1.length : Int)) ∧ env1.get 9 = some (I v0) ∧ σ2 a_0 = some (.cells [(.mp a_1), (I v1), (LInstr v2 tk2)]) ∧ σ2 a_1 = some (.map (List.map (fun e_ => ((AV.int .i64) e_.1, (AV.int .i64) e_.2)) v3)) ∧ TokOk σ2 tk2 v2.length 4 ∧ Lo σ_0 ([a_0] ++ [a_1] ++ tkNames tko0c2_0) (tkNames tk2) ∧ L_i_coding_body_1 f p_1 J0 n0 v0 v1 v2 v3 = some r) ?_ f _ _ ⟨0, o0c1_0, o0c2_0, o1m_0, tko0c2_0, F_0, rfl, rfl, rfl, rfl, s_0, s_1, (to0c2_0.len (by first | rfl | simp)), (Lo.mem fun j_ hj_ => (List.mem_append_right _ hj_)), hM⟩)))))))
 rintro n0 env1 σ2 ⟨v0, v1, v2, v3, tk2, F2, h1, h2, h3, h4, s4, s5, t2, lo3, hM⟩
 cases n0 with
 | zero => (rw [L_i_coding_body_1] at hM; cases hM)
 | succ n0 =>
  rw [L_i_coding_body_1] at hM
  refine SW.seqR fun K5 hK5 => it h4 h3 rfl <| R.done (hK5 _ _ (SW.seq (SW.cond rfl (fun hb0 => ?_) (fun hb0 => ?_))))
  · have hM := cT hb0 hM
    refine SW.skip <| SW.seq <| SW.block <| SW.seqR fun K6 hK6 => ?_
    obtain ⟨hg0, hM⟩ := gd hM
    obtain ⟨x0, hx0, hM⟩ := bd hM
    refine R.op rfl (a_idxImm (f := eTerm) (xs := p_1) (n := v0) (e := x0) (v := (.agg (cTerm x0))) ti23 rfl ti25 rfl h2 h4 (od hg0) hx0 (eTerm_eq x0) (li (v := (.agg (cTerm x0))) ti25 rfl rfl (alTerm fun a0 σ3 n1 s6 hF1 => ?_)))
    have ne0 := ne_new n1 s4
    have ne1 := ne_new n1 s5
    have lo4 := F2.lo1 n1
    have s7 := hF1.keep s4 (by simp)
    have s8 := hF1.keep s5 (by simp)
    have t3 := t2.keep hF1 (by simp)
    have F3 := F2.andThen hF1 Lo.nil
    refine R.op rfl (a_store (cs' := (cTerm x0)) ti25 rfl rfl s6 rfl (nb rfl) rfl rfl fun σ4 s9 hF2 => ?_)
    have sa := hF2.keep s7 (m1 ne0)
    have sb := hF2.keep s8 (m1 ne1)
    have t4 := t3.keep hF2 (not1 (tok_cells t3 s6))
    have F4 := F3.andThen hF2 lo4
    refine R.done (hK6 _ _ (SW.region (mv h1 (ld (v := (.agg (cTerm x0))) ti25 rfl s9 rfl ?_))))
    obtain ⟨z0, hr1, hM⟩ := bd hM
    refine cl rfl (oc rfl (oc rfl on)) (AC.go (r_i_coding_goal f x0 a_0 v1 v2 tk2 a_1 v3 z0 hr1 _ sa sb (t4.len (by first | rfl | simp)) ne_0_1) (LeL.refl _) (StLe.refl _) fun v_ σ5 hp_ => ?_)
    obtain ⟨tk3, rfl, sc, sd, t5, nn1, hF3⟩ := hp_
    have lo5 := Lo.call F4 (Lo.app (Lo.app (Lo.mem fun j_ hj_ => (ml _ (ml _ hj_))) (Lo.mem fun j_ hj_ => (ml _ (List.mem_append_right _ hj_)))) lo3) nn1
    have se := hF3.keep s9 (mA (mA (m1 (Ne.symm ne0)) (m1 (Ne.symm ne1))) (tok_cells t4 s9))
    have F5 := F4.andThen hF3 (Lo.app (Lo.app (Lo.mem fun j_ hj_ => (ml _ (ml _ hj_))) (Lo.mem fun j_ hj_ => (ml _ (List.mem_append_right _ hj_)))) lo3)
    refine R.done <| SW.region <| it h4 rfl rfl <| mv rfl <| R.done ?_
    exact ⟨n0, Nat.lt_succ_self _, (IntKind.wrap .i64 (v0 + 1)), z0.1, z0.2.1, z0.2.2, tk3, F5, h1, h2, h3, rfl, sc, sd, (t5.len (by first | rfl | simp)), lo5, hM⟩
  · have hM := cF hb0 hM
    refine SW.exit <| Qte <| Qte <| Qbx ?_
    exact hJ0 v1 v2 v3 tk2 _ _ F2 h1 s4 s5 (t2.len (by first | rfl | simp)) lo3 hM

def M_i_compileClause (f : Nat) (p_0 : SClause) : Option (List SInstr) :=
 Option.bind (M_i_newCoding f) fun z0 =>
 Option.bind (M_i_coding_head f p_0.head.kids z0.1 z0.2.1 z0.2.2) fun z1 =>
 Option.bind (M_i_coding_body f p_0.body z1.1 z1.2.1 z1.2.2) fun z2 =>
 some (z2.1)

theorem r_i_compileClause (f : Nat) (p_0 : SClause) (r : (List SInstr)) (hM : M_i_compileClause f p_0 = some r) (σ_0 : St) : AC Tryz.prog 28 [(.agg (cClause p_0))] σ_0 (fun v s => v = (LInstr r .no) ∧ s = σ_0) := by
 have F_0 := Fr.refl σ_0 []
 unfold M_i_compileClause at hM
 refine AC.of_body Tryz.func28 rfl rfl (by rfl) (by simp [Tryz.f28]) <| SW.seqR fun K0 hK0 => R.op rfl (a_box (v := (.agg (cClause p_0))) rfl rfl fun a0 σ0 n0 s0 hF0 => ?_)
 have lo0 := F_0.lo1 n0
 have F0 := F_0.andThen hF0 Lo.nil
 refine R.opLe rfl (a_assign (v := (.imm 0 [] .full)) rfl ⟨(LInstr ([] : List SInstr) .full), Le.empty' _ _ _ rfl, (R.done (hK0 _ _ (SW.seqR fun K1 hK1 => ?_)))⟩)
 obtain ⟨z0, hr0, hM⟩ := bd hM
 refine cl rfl on (AC.go (r_i_newCoding f z0 hr0 _) (LeL.refl _) (StLe.refl _) fun v_ σ1 hp_ => ?_)
 obtain ⟨a1, a2, tk0, rfl, t0, nn0, s1, nn1, s2, nn2, ne0, hF1⟩ := hp_
 have lo2 := Lo.call F0 Lo.nil nn1
 have ne1 := ne_call nn1 s0 (by simp)
 have lo3 := Lo.call F0 Lo.nil nn2
 have ne2 := ne_call nn2 s0 (by simp)
 have lo4 := Lo.call F0 Lo.nil nn0
 have s3 := hF1.keep s0 (by simp)
 have F1 := F0.andThen hF1 Lo.nil
 refine sn rfl <| R.done (hK1 _ _ (SW.seqR fun K2 hK2 => mv rfl (fp ti27 rfl rfl rfl (by decide) (fp ti25 rfl rfl rfl (by decide) (ld ti23 rfl s3 rfl ?_)))))
 obtain ⟨z1, hr1, hM⟩ := bd hM
 refine cl rfl (oc rfl (oc rfl on)) (AC.go (r_i_coding_head f p_0.head.kids .no a1 z0.1 z0.2.1 tk0 a2 z0.2.2 z1 hr1 _ s1 s2 (t0.len (by first | rfl | simp)) ne0) (LeL.refl _) (StLe.refl _) fun v_ σ2 hp_ => ?_)
 obtain ⟨tk1, rfl, s4, s5, t1, nn3, hF2⟩ := hp_
 have lo5 := Lo.call F1 (Lo.app (Lo.app lo2 lo3) lo4) nn3
 have s6 := hF2.keep s3 (mA (mA (m1 ne1) (m1 ne2)) (tok_cells t0 s3))
 have F2 := F1.andThen hF2 (Lo.app (Lo.app lo2 lo3) lo4)
 refine R.done (hK2 _ _ (SW.seqR fun K3 hK3 => mv rfl (fp ti27 rfl rfl rfl (by decide) (ld ti23 rfl s6 rfl ?_))))
 obtain ⟨z2, hr2, hM⟩ := bd hM
 refine cl rfl (oc rfl (oc rfl on)) (AC.go (r_i_coding_body f p_0.body .no a1 z1.1 z1.2.1 tk1 a2 z1.2.2 z2 hr2 _ s4 s5 (t1.len (by first | rfl | simp)) ne0) (LeL.refl _) (StLe.refl _) fun v_ σ3 hp_ => ?_)
 obtain ⟨tk2, rfl, s7, s8, t2, nn4, hF3⟩ := hp_
 have lo6 := Lo.call F2 (Lo.app (Lo.app lo2 lo3) lo5) nn4
 have s9 := hF3.keep s6 (mA (mA (m1 ne1) (m1 ne2)) (tok_cells t1 s6))
 have F3 := F2.andThen hF3 (Lo.app (Lo.app lo2 lo3) lo5)
 refine sn rfl <| R.done (hK3 _ _ (SW.ret ?_))
 obtain rfl := si hM
 exact ret_of (rc rfl rn) (LInstr z2.1 .no) σ_0 (Le.refl _) F3.back ⟨rfl, rfl⟩

def M_i_CompileClause (f : Nat) (p_0 : SClause) : Option ((List SInstr) × Bool) :=
 Option.bind (M_i_ClauseValid f p_0) fun z0 =>
 bif (!z0) then (
 some (([] : List SInstr), false)
 ) else (
 Option.bind (M_i_compileClause f p_0) fun z1 =>
 some (z1, true)
 )

theorem r_i_CompileClause (f : Nat) (p_0 : SClause) (r : (List SInstr) × Bool) (hM : M_i_CompileClause f p_0 = some r) (σ_0 : St) : AC Tryz.prog 8 [(.agg (cClause p_0))] σ_0 (fun v s => v = (.tup [(LInstr r.1 .no), (.bool r.2)]) ∧ s = σ_0) := by
 have F_0 := Fr.refl σ_0 []
 unfold M_i_CompileClause at hM
 refine AC.of_body Tryz.func8 rfl rfl (by rfl) (by simp [Tryz.f8]) <| SW.seqR fun K0 hK0 => R.op rfl (a_box (v := (.agg (cClause p_0))) rfl rfl fun a0 σ0 n0 s0 hF0 => ?_)
 have lo0 := F_0.lo1 n0
 have F0 := F_0.andThen hF0 Lo.nil
 refine R.opLe rfl (a_assign (v := (.imm 0 [] .full)) rfl ⟨(LInstr ([] : List SInstr) .full), Le.empty' _ _ _ rfl, (sn rfl (R.done (hK0 _ _ (SW.seq (SW.seqR fun K1 hK1 => ld (v := (.agg (cClause p_0))) ti27 rfl s0 rfl ?_)))))⟩)
 obtain ⟨z0, hr0, hM⟩ := bd hM
 refine cp (r_i_ClauseValid f p_0 z0 hr0 _) rfl (oc rfl on) (LeL.refl _) <| no rfl <| R.done (hK1 _ _ (SW.cond rfl (fun hb0 => ?_) (fun hb0 => ?_)))
 · have hM := cT hb0 hM
   refine SW.seqR fun K2 hK2 => R.opLe rfl (a_assign (v := (.imm 0 [] .full)) rfl ⟨(LInstr ([] : List SInstr) .full), Le.empty' _ _ _ rfl, (sn rfl (R.done (hK2 _ _ (SW.ret (Qt ?_)))))⟩)
   obtain rfl := si hM
   exact ret_of (rc rfl (rc rfl rn)) (.tup [(LInstr ([] : List SInstr) .no), (.bool false)]) σ_0 (Le.tup (LeL.cons (Le.tok _ _ _) (LeL.cons (Le.refl _) LeL.nil))) F0.back ⟨rfl, rfl⟩
 · have hM := cF hb0 hM
   refine SW.skip <| SW.seqR fun K3 hK3 => ld (v := (.agg (cClause p_0))) ti27 rfl s0 rfl ?_
   obtain ⟨z1, hr1, hM⟩ := bd hM
   refine cp (r_i_compileClause f p_0 z1 hr1 _) rfl (oc rfl on) (LeL.refl _) <| sn rfl <| sn rfl <| R.done (hK3 _ _ (SW.ret ?_))
   obtain rfl := si hM
   exact ret_of (rc rfl (rc rfl rn)) (.tup [(LInstr z1 .no), (.bool true)]) σ_0 (Le.refl _) F0.back ⟨rfl, rfl⟩

def M_s_l8Emit (f : Nat) (p_0 : Sl8Maker) (p_1 : SInstr) : Option Sl8Maker :=
 bif decide (([] : List SInstr).length + p_0.code.length ≤ 4294967296) then
 bif decide ((([] : List SInstr) ++ p_0.code).length + ([p_1]).length ≤ 4294967296) then
 some ((Sl8Maker.mk p_0.slots p_0.next ((([] : List SInstr) ++ p_0.code) ++ ([p_1]))))
 else none
 else none

theorem r_s_l8Emit (f : Nat) (p_0 : Sl8Maker) (p_1 : SInstr) (r : Sl8Maker) (hM : M_s_l8Emit f p_0 p_1 = some r) (σ_0 : St) : AC Tryz.prog 118 [(.agg (cl8Maker p_0)), (.agg (cInstr p_1))] σ_0 (fun v s => v = (.agg (cl8Maker r)) ∧ s = σ_0) := by
 have F_0 := Fr.refl σ_0 []
 unfold M_s_l8Emit at hM
 refine AC.of_body Tryz.func118 rfl rfl (by rfl) (by simp [Tryz.f118]) <| SW.seqR fun K0 hK0 => R.op rfl (a_box (v := (.agg (cl8Maker p_0))) rfl rfl fun a0 σ0 n0 s0 hF0 => ?_)
 have lo0 := F_0.lo1 n0
 have F0 := F_0.andThen hF0 Lo.nil
 refine R.op rfl (a_box (v := (.agg (cInstr p_1))) rfl rfl fun a1 σ1 n1 s1 hF1 => ?_)
 have ne0 := ne_new n1 s0
 have lo2 := F0.lo1 n1
 have s2 := hF1.keep s0 (by simp)
 have F1 := F0.andThen hF1 Lo.nil
 refine all8Maker fun a2 σ2 n2 s3 hF2 => ?_
 have ne1 := ne_new n2 s2
 have ne2 := ne_new n2 s1
 have lo3 := F1.lo1 n2
 have s4 := hF2.keep s2 (by simp)
 have s5 := hF2.keep s1 (by simp)
 have F2 := F1.andThen hF2 Lo.nil
 refine R.done (hK0 _ _ (SW.seqK fun K1 hK1 => SW.draw' mixed [(0, false), (1, false), (2, false), (4, true), (5, false), (3, true), (6, false), (7, false), (8, false)] [(a1, wLod ⟨4, 40, true, (some (.agg [.int .i64 0, .int .i64 0, .int .i64 0, .str ⟨#[]⟩])), (.struct [(0, 1, false), (1, 1, false), (2, 1, false), (3, 1, false)] (some [.i, .i, .i, .s]))⟩ 0 (.agg (cInstr p_1)))] [] (by kernel_rfl) (by kernel_rfl) (fun t ht => by simp at ht) (D.op rfl rfl (a_buildSlice (v := (LInstr ([] : List SInstr) .full)) (bsv_of ti31 rfl ti57 pn rfl ⟨rfl, by decide, by decide, rfl⟩) (D.op rfl rfl (a_fieldPtr ti103 rfl rfl rfl (by decide) (D.op rfl rfl (a_loadPtr ti31 rfl s4 rfl (D.rd rfl rfl (wat_lod s5 rfl wat_nil) (lk_load ti57 rfl (wat_lod s5 rfl wat_nil) (.head _)) rfl (a_loadPtr (v := (.agg (cInstr p_1))) ti57 rfl s5 rfl (D.op rfl rfl (a_buildSlice (v := (LInstr ([p_1]) .full)) (bsv_of ti31 rfl ti57 (pc rfl pn) rfl ⟨rfl, by decide, by decide, rfl⟩) ?_))))))))))))
 obtain ⟨hg0, hM⟩ := gd hM
 refine D.wk rfl rfl (wat_lod s5 rfl wat_nil) rfl (a_append (es := List.map eInstr ([] : List SInstr)) (ds := List.map eInstr p_0.code) (rs := List.map eInstr (([] : List SInstr) ++ p_0.code)) ti31 rfl ti31 rfl ti57 rfl rfl (.inl rfl) rfl rfl (by decide) (by decide) (by simpa using od hg0) (.inl rfl) trivial (by simp) fun tk0 σ3 t0 hF3 nn0 => ?_)
 have lo4 := F2.loTk Lo.full nn0
 have s6 := hF3.keep s4 (by simp [tkNames])
 have s7 := hF3.keep s5 (by simp [tkNames])
 have s8 := hF3.keep s3 (by simp [tkNames])
 have F3 := F2.andThen hF3 Lo.full
 refine ⟨(wat_lod s7 rfl wat_nil), ?_⟩
 obtain ⟨hg1, hM⟩ := gd hM
 refine D.op rfl rfl (a_append (es := List.map eInstr (([] : List SInstr) ++ p_0.code)) (ds := List.map eInstr ([p_1])) (rs := List.map eInstr ((([] : List SInstr) ++ p_0.code) ++ ([p_1]))) ti31 rfl ti31 rfl ti57 rfl rfl (.inl rfl) rfl rfl (by decide) (by decide) (by simpa using od hg1) (.inl rfl) (t0.len (by first | rfl | simp)) (by simp) fun tk1 σ4 t1 hF4 nn1 => ?_)
 have lo5 := F3.loTk lo4 nn1
 have s9 := hF4.keep s6 (tok_cells t0 s6)
 have sa := hF4.keep s7 (tok_cells t0 s7)
 have sb := hF4.keep s8 (tok_cells t0 s8)
 have F4 := F3.andThen hF4 lo4
 refine D.op rfl rfl (a_fieldPtr ti103 rfl rfl rfl (by decide) (D.op rfl rfl (a_store (cs' := [(LI p_0.slots .no), (I p_0.next), (LInstr ((([] : List SInstr) ++ p_0.code) ++ ([p_1])) tk1)]) ti31 rfl rfl s9 rfl (nb rfl) rfl rfl fun σ5 sc hF5 => ?_)))
 have sd := hF5.keep sa (m1 (Ne.symm ne0))
 have se := hF5.keep sb (m1 (Ne.symm ne1))
 have t2 := t1.keep hF5 (not1 (tok_cells t1 s9))
 have F5 := F4.andThen hF5 lo0
 refine D.done (hK1 _ _ (SW.seqR fun K2 hK2 => ld (v := (.agg [(LI p_0.slots .no), (I p_0.next), (LInstr ((([] : List SInstr) ++ p_0.code) ++ ([p_1])) tk1)])) ti103 rfl sc rfl (R.op rfl (a_store (cs' := [(LI p_0.slots .no), (I p_0.next), (LInstr ((([] : List SInstr) ++ p_0.code) ++ ([p_1])) tk1)]) ti103 rfl rfl se rfl (nb rfl) rfl rfl fun σ6 sf hF6 => ?_))))
 have sg := hF6.keep sc (m1 ne1)
 have t3 := t2.keep hF6 (not1 (tok_cells t2 se))
 have F6 := F5.andThen hF6 lo3
 refine R.done (hK2 _ _ (SW.ret ?_))
 obtain rfl := si hM
 exact ret_of (rcc ti103 rfl sf rfl rn) (.agg (cl8Maker (Sl8Maker.mk p_0.slots p_0.next ((([] : List SInstr) ++ p_0.code) ++ ([p_1]))))) σ_0 (Le.agg (LeL.cons (Le.refl _) (LeL.cons (Le.refl _) (LeL.cons (Le.tok _ _ _) LeL.nil)))) F6.back ⟨rfl, rfl⟩

def M_s_l8Slot (f : Nat) (p_0 : Sl8Maker) (p_1 : Int) (p_2 : Int) : Option Sl8Maker :=
 bif decide (([] : List Int).length + p_0.slots.length ≤ 4294967296) then
 bif decide (0 < p_0.slots.length) then
 bif decide (0 ≤ p_1) then
 Option.bind ((([] : List Int) ++ p_0.slots)[(p_1 : Int).toNat]?) fun x0 =>
 some ((Sl8Maker.mk (List.set (([] : List Int) ++ p_0.slots) (p_1 : Int).toNat p_2) p_0.next p_0.code))
 else none
 else none
 else none

theorem r_s_l8Slot (f : Nat) (p_0 : Sl8Maker) (p_1 : Int) (p_2 : Int) (r : Sl8Maker) (hM : M_s_l8Slot f p_0 p_1 p_2 = some r) (σ_0 : St) : AC Tryz.prog 120 [(.agg (cl8Maker p_0)), (I p_1), (I p_2)] σ_0 (fun v s => v = (.agg (cl8Maker r)) ∧ s = σ_0) := by
 have F_0 := Fr.refl σ_0 []
 unfold M_s_l8Slot at hM
 refine AC.of_body Tryz.func120 rfl rfl (by rfl) (by simp [Tryz.f120]) <| SW.seqR fun K0 hK0 => R.op rfl (a_box (v := (.agg (cl8Maker p_0))) rfl rfl fun a0 σ0 n0 s0 hF0 => ?_)
 have lo0 := F_0.lo1 n0
 have F0 := F_0.andThen hF0 Lo.nil
 refine all8Maker fun a1 σ1 n1 s1 hF1 => ?_
 have ne0 := ne_new n1 s0
 have lo2 := F0.lo1 n1
 have s2 := hF1.keep s0 (by simp)
 have F1 := F0.andThen hF1 Lo.nil
 refine R.done (hK0 _ _ (SW.seqR fun K1 hK1 => R.op rfl (a_buildSlice (v := (LI ([] : List Int) .full)) (bsv_of ti76 rfl ti3 pn rfl ⟨rfl, by decide, by decide, rfl⟩) (fp ti103 rfl rfl rfl (by decide) (ld ti76 rfl s2 rfl ?_)))))
 obtain ⟨hg0, hM⟩ := gd hM
 obtain ⟨hg1, hM⟩ := gd hM
 refine R.op rfl (a_appendRef (f := (AV.int .i64)) (es := ([] : List Int)) (ds := p_0.slots) ti76 rfl ti76 rfl ti3 rfl rfl (by first | rfl | (simp [srcOf]; done)) rfl rfl (by decide) (by decide) (od hg0) (.inl rfl) (od hg1) fun a2 σ2 cp0 n2 s3 hF2 hc0 => ?_)
 have ne1 := ne_new n2 s2
 have ne2 := ne_new n2 s1
 have lo3 := F1.lo1 n2
 have s4 := hF2.keep s2 (by simp)
 have s5 := hF2.keep s1 (by simp)
 have F2 := F1.andThen hF2 Lo.nil
 refine fp ti103 rfl rfl rfl (by decide) <| R.op rfl (a_store (cs' := [(.ref a2 0 (([] : List Int).length + p_0.slots.length) cp0), (I p_0.next), (LInstr p_0.code .no)]) ti76 rfl rfl s4 rfl (nb rfl) rfl rfl fun σ3 s6 hF3 => ?_)
 have s7 := hF3.keep s5 (m1 (Ne.symm ne0))
 have s8 := hF3.keep s3 (m1 (Ne.symm ne1))
 have F3 := F2.andThen hF3 lo0
 refine R.done (hK1 _ _ (SW.seqR fun K2 hK2 => fp ti103 rfl rfl rfl (by decide) (ld ti76 rfl s6 rfl (mv rfl (mv rfl ?_)))))
 obtain ⟨hg2, hM⟩ := gd hM
 obtain ⟨x0, hx0, hM⟩ := bd hM
 refine R.op rfl (a_idxRef (xs := (([] : List Int) ++ p_0.slots)) (sz := 1) (k := p_1) (e := x0) ti76 rfl ti3 rfl rfl rfl (od hg2) List.length_append hx0 (R.op rfl (a_store (v := (I p_2)) (cs' := flat (AV.int .i64) (List.set (([] : List Int) ++ p_0.slots) (p_1 : Int).toNat p_2)) ti3 rfl rfl s8 rfl (flat_bound0 (El.int .i64) hx0 (by decide)) rfl (splice_elem (El.int .i64) hx0 rfl) fun σ4 s9 hF4 => ?_)))
 have sa := hF4.keep s7 (m1 ne2)
 have sb := hF4.keep s6 (m1 ne1)
 have F4 := F3.andThen hF4 lo3
 refine R.done (hK2 _ _ (SW.seqR fun K3 hK3 => ld (v := (.agg [(.ref a2 0 (([] : List Int).length + p_0.slots.length) cp0), (I p_0.next), (LInstr p_0.code .no)])) ti103 rfl sb rfl (R.op rfl (a_store (cs' := [(.ref a2 0 (([] : List Int).length + p_0.slots.length) cp0), (I p_0.next), (LInstr p_0.code .no)]) ti103 rfl rfl sa rfl (nb rfl) rfl rfl fun σ5 sc hF5 => ?_))))
 have sd := hF5.keep sb (m1 ne0)
 have se := hF5.keep s9 (m1 (Ne.symm ne2))
 have F5 := F4.andThen hF5 lo2
 refine R.done (hK3 _ _ (SW.freezeL (l := [(a0, [(LI (List.set (([] : List Int) ++ p_0.slots) (p_1 : Int).toNat p_2) .no), (I p_0.next), (LInstr p_0.code .no)]), (a1, [(LI (List.set (([] : List Int) ++ p_0.slots) (p_1 : Int).toNat p_2) .no), (I p_0.next), (LInstr p_0.code .no)])]) se (EFz.refl _) (.cons ne1 sd (.cons (FzLe.ref (El.int .i64) cp0 (List.length_set.trans List.length_append)) (.cons (FzLe.refl _) (.cons (FzLe.refl _) .nil))) (by intro x_ hx_; simp only [List.mem_cons, List.not_mem_nil, or_false] at hx_; rcases hx_ with rfl; exact (Ne.symm ne0)) (.cons ne2 sc (.cons (FzLe.ref (El.int .i64) cp0 (List.length_set.trans List.length_append)) (.cons (FzLe.refl _) (.cons (FzLe.refl _) .nil))) (fun x_ hx_ => by cases hx_) .nil)) fun σ6 hg3 hF6 => ?_))
 have hF6 : Fr _ σ6 (([a2] ++ [a0]) ++ [a1]) := hF6
 obtain ⟨sf, sg, _⟩ := hg3
 have F6 := F5.andThen hF6 (Lo.app (Lo.app lo3 lo0) lo2)
 refine SW.ret ?_
 obtain rfl := si hM
 exact ret_of (rcc ti103 rfl sg rfl rn) (.agg (cl8Maker (Sl8Maker.mk (List.set (([] : List Int) ++ p_0.slots) (p_1 : Int).toNat p_2) p_0.next p_0.code))) σ_0 (Le.refl _) F6.back ⟨rfl, rfl⟩

def L_s_l8Args_1 (f : Nat) (p_1 : (List STerm)) (J0 : List Sleft → List Int → Int → List SInstr → Option (Sl8Maker × (List Sleft))) : Nat → List Sleft → Int → List Int → Int → List SInstr → Option (Sl8Maker × (List Sleft))
 | 0, _, _, _, _, _ => none
 | n + 1, v0, v1, v2, v3, v4 =>
 bif decide (v1 < (p_1.length : Int)) then (
 jn (fun (v5 : List Sleft) (v6 : List Int) (v7 : Int) (v8 : List SInstr) => (
 L_s_l8Args_1 f p_1 J0 n v5 (IntKind.wrap .i64 (v1 + 1)) v6 v7 v8
 )) fun J1 => (
 bif decide (0 ≤ v1) then
 Option.bind (p_1[(v1 : Int).toNat]?) fun x0 =>
 bif (x0.kind == 2) then (
 Option.bind (M_s_l8Emit f (Sl8Maker.mk v2 v3 v4) (SInstr.mk 6 x0.n 0 (⟨#[]⟩ : ByteArray))) fun z0 =>
 J1 v0 z0.slots z0.next z0.code
 ) else (
 jn (fun (v9 : Bool) => (
 bif v9 then (
 bif decide (0 ≤ x0.n) then
 Option.bind (v2[(x0.n : Int).toNat]?) fun x1 =>
 Option.bind (M_s_l8Emit f (Sl8Maker.mk v2 v3 v4) (SInstr.mk 5 x1 0 (⟨#[]⟩ : ByteArray))) fun z1 =>
 J1 v0 z1.slots z1.next z1.code
 else none
 ) else (
 bif (x0.kind == 1) then (
 Option.bind (M_s_l8Slot f (Sl8Maker.mk v2 v3 v4) x0.n v3) fun z2 =>
 Option.bind (M_s_l8Emit f z2 (SInstr.mk 4 z2.next 0 (⟨#[]⟩ : ByteArray))) fun z3 =>
 J1 v0 z3.slots (IntKind.wrap .i64 (z3.next + 1)) z3.code
 ) else (
 bif decide (v0.length + ([(Sleft.mk x0 v3)]).length ≤ 4294967296) then
 Option.bind (M_s_l8Emit f (Sl8Maker.mk v2 v3 v4) (SInstr.mk 4 v3 0 (⟨#[]⟩ : ByteArray))) fun z4 =>
 J1 (v0 ++ ([(Sleft.mk x0 v3)])) z4.slots (IntKind.wrap .i64 (z4.next + 1)) z4.code
 else none
 )
 )
 )) fun J2 => (
 bif (x0.kind == 1) then (
 bif decide (0 ≤ x0.n) then
 Option.bind (v2[(x0.n : Int).toNat]?) fun x2 =>
 J2 (decide (0 ≤ x2))
 else none
 ) else (
 J2 false
 )
 )
 )
 else none
 )
 ) else (
 J0 v0 v2 v3 v4
 )

def M_s_l8Args (f : Nat) (p_0 : Sl8Maker) (p_1 : (List STerm)) : Option (Sl8Maker × (List Sleft)) :=
 jn (fun (va : List Sleft) (vb : List Int) (vc : Int) (vd : List SInstr) => (
 some ((Sl8Maker.mk vb vc vd), va)
 )) fun J0 => (
 L_s_l8Args_1 f p_1 J0 f ([] : List Sleft) 0 p_0.slots p_0.next p_0.code
 )

theorem r_s_l8Args (f : Nat) (p_0 : Sl8Maker) (p_1 : (List STerm)) (tk_1 : Tk) (r : Sl8Maker × (List Sleft)) (hM : M_s_l8Args f p_0 p_1 = some r) (σ_0 : St) : AC Tryz.prog 121 [(.agg (cl8Maker p_0)), (LTerm p_1 tk_1)] σ_0 (fun v s => v = (.tup [(.agg (cl8Maker r.1)), (Lleft r.2 .no)]) ∧ s = σ_0) := by
 have F_0 := Fr.refl σ_0 []
 unfold M_s_l8Args at hM
 refine AC.of_body Tryz.func121 rfl rfl (by rfl) (by simp [Tryz.f121]) <| SW.seqR fun K0 hK0 => R.op rfl (a_box (v := (.agg (cl8Maker p_0))) rfl rfl fun a0 σ0 n0 s0 hF0 => ?_)
 have lo0 := F_0.lo1 n0
 have F0 := F_0.andThen hF0 Lo.nil
 refine all8Maker fun a1 σ1 n1 s1 hF1 => ?_
 have ne0 := ne_new n1 s0
 have lo2 := F0.lo1 n1
 have s2 := hF1.keep s0 (by simp)
 have F1 := F0.andThen hF1 Lo.nil
 refine R.opLe rfl (a_assign (v := (.imm 0 [] .full)) rfl ⟨(Lleft ([] : List Sleft) .full), Le.empty' _ _ _ rfl, (R.done (hK0 _ _ (SW.seqR fun K1 hK1 => R.op rfl (a_buildSlice (v := (Lleft ([] : List Sleft) .full)) (bsv_of ti148 rfl ti151 pn rfl ⟨rfl, by decide, by decide, rfl⟩) (sn rfl (R.done (hK1 _ _ (SW.seqK fun K2 hK2 => ?_))))))))⟩)
 obtain ⟨J0, eJ0, hM⟩ := jn_elim hM
 have hJ0 : ∀ (va : List Sleft) (vb : List Int) (vc : Int) (vd : List SInstr) (tk0 : Tk) (env0 : Env) (σ2 : St), Fr σ_0 σ2 [] → env0.get 2 = some (.ptr a0 0) → env0.get 4 = some (.ptr a1 0) → env0.get 6 = some (Lleft va tk0) → σ2 a0 = some (.cells [(LI vb .no), (I vc), (LInstr vd .no)]) → σ2 a1 = some (.cells [(LI ([] : List Int) .full), (I 0), (LInstr ([] : List SInstr) .full)]) → TokOk σ2 tk0 va.length 5 → Lo σ_0 [] (tkNames tk0) → J0 va vb vc vd = some r → K2 env0 σ2 := by
  intro va vb vc vd tk0 env0 σ2 F2 h0 h1 h2 s3 s4 t0 lo3 hM
  subst eJ0
  refine hK2 _ _ <| SW.seqR fun K3 hK3 => ld (v := (.agg [(LI vb .no), (I vc), (LInstr vd .no)])) ti103 h0 s3 rfl <| mv h2 <| R.op rfl (a_store (cs' := [(LI vb .no), (I vc), (LInstr vd .no)]) ti103 h1 rfl s4 rfl (nb rfl) rfl rfl fun σ3 s5 hF2 => ?_)
  have s6 := hF2.keep s3 (m1 ne0)
  have t1 := t0.keep hF2 (not1 (tok_cells t0 s4))
  have F3 := F2.andThen hF2 lo2
  refine sn rfl <| R.done (hK3 _ _ (SW.ret ?_))
  obtain rfl := si hM
  exact ret_of (rcc ti103 h1 s5 rfl (rc rfl rn)) (.tup [(.agg (cl8Maker (Sl8Maker.mk vb vc vd))), (Lleft va .no)]) σ_0 (Le.tup (LeL.cons (Le.refl _) (LeL.cons (Le.tok _ _ _) LeL.nil))) F3.back ⟨rfl, rfl⟩
 clear eJ0
 refine SW.seqR fun K4 hK4 => sn rfl <| R.done (hK4 _ _ (SW.block (SW.loop (LW.ind (I := fun n2 env1 σ4 => ∃ (v0 : List Sleft) (v1 : Int) (v2 : List Int) (v3 : Int) (v4 : List SInstr) (tk1 : Tk), Fr σ_0 σ4 [] ∧ env1.get 1 = some (LTerm p_1 tk_1) ∧ env1.get 2 = some (.ptr a0 0) ∧ env1.get 4 = some (.ptr a1 0) ∧ env1.get 6 = some (Lleft v0 tk1) ∧ env1.get 7 = some (I v1) ∧ σ4 a0 = some (.cells [(LI v2 .no), (I v3), (LInstr v4 .no)]) ∧ σ4 a1 = some (.cells [(LI ([] : List Int) .full), (I 0), (LInstr ([] : List SInstr) .full)]) ∧ TokOk σ4 tk1 v0.length 5 ∧ Lo σ_0 [] (tkNames tk1) ∧ L_s_l8Args_1 f p_1 J0 n2 v0 v1 v2 v3 v4 = some r) ?_ f _ _ ⟨([] : List Sleft), 0, p_0.slots, p_0.next, p_0.code, .full, F1, rfl, rfl, rfl, rfl, rfl, s2, s1, trivial, Lo.full, hM⟩))))
 rintro n2 env1 σ4 ⟨v0, v1, v2, v3, v4, tk1, F4, h3, h4, h5, h6, h7, s7, s8, t2, lo4, hM⟩
 cases n2 with
 | zero => (rw [L_s_l8Args_1] at hM; cases hM)
 | succ n2 =>
  rw [L_s_l8Args_1] at hM
  refine SW.seq <| SW.seqR fun K5 hK5 => mv h7 <| mv h3 <| R.op rfl (a_lenImm ti23 rfl rfl (n := (p_1.length : Int)) (by simp) (it rfl rfl rfl (R.done (hK5 _ _ (SW.cond rfl (fun hb0 => ?_) (fun hb0 => ?_))))))
  · have hM := cT hb0 hM
    refine SW.skip <| SW.seqK fun K6 hK6 => ?_
    obtain ⟨J1, eJ1, hM⟩ := jn_elim hM
    have hJ1 : ∀ (v5 : List Sleft) (v6 : List Int) (v7 : Int) (v8 : List SInstr) (tk2 : Tk) (env2 : Env) (σ5 : St), Fr σ_0 σ5 [] → env2.get 1 = some (LTerm p_1 tk_1) → env2.get 2 = some (.ptr a0 0) → env2.get 4 = some (.ptr a1 0) → env2.get 6 = some (Lleft v5 tk2) → env2.get 7 = some (I v1) → σ5 a0 = some (.cells [(LI v6 .no), (I v7), (LInstr v8 .no)]) → σ5 a1 = some (.cells [(LI ([] : List Int) .full), (I 0), (LInstr ([] : List SInstr) .full)]) → TokOk σ5 tk2 v5.length 5 → Lo σ_0 [] (tkNames tk2) → J1 v5 v6 v7 v8 = some r → K6 env2 σ5 := by
     intro v5 v6 v7 v8 tk2 env2 σ5 F5 h8 h9 ha hb hc s9 sa t3 lo5 hM
     subst eJ1
     refine hK6 _ _ <| SW.region <| mv hc <| it rfl rfl rfl <| sn rfl <| R.done ?_
     exact ⟨n2, Nat.lt_succ_self _, v5, (IntKind.wrap .i64 (v1 + 1)), v6, v7, v8, tk2, F5, h8, h9, ha, hb, rfl, s9, sa, (t3.len (by first | rfl | simp)), lo5, hM⟩
    clear eJ1
    refine SW.block <| SW.seqR fun K7 hK7 => mv h3 <| mv h7 ?_
    obtain ⟨hg0, hM⟩ := gd hM
    obtain ⟨x0, hx0, hM⟩ := bd hM
    refine R.op rfl (a_idxImm (f := eTerm) (xs := p_1) (n := v1) (e := x0) (v := (.agg (cTerm x0))) ti23 rfl ti25 rfl rfl rfl (od hg0) hx0 (eTerm_eq x0) (li (v := (.agg (cTerm x0))) ti25 rfl rfl (alTerm fun a2 σ6 n3 sb hF3 => ?_)))
    have ne1 := ne_new n3 s7
    have ne2 := ne_new n3 s8
    have lo6 := F4.lo1 n3
    have sc := hF3.keep s7 (by simp)
    have sd := hF3.keep s8 (by simp)
    have t4 := t2.keep hF3 (by simp)
    have F6 := F4.andThen hF3 Lo.nil
    refine R.op rfl (a_store (cs' := (cTerm x0)) ti25 rfl rfl sb rfl (nb rfl) rfl rfl fun σ7 se hF4 => ?_)
    have sf := hF4.keep sc (m1 ne1)
    have sg := hF4.keep sd (m1 ne2)
    have t5 := t4.keep hF4 (not1 (tok_cells t4 sb))
    have F7 := F6.andThen hF4 lo6
    refine R.done (hK7 _ _ (SW.block (SW.seqR fun K8 hK8 => fp ti25 rfl rfl rfl (by decide) (ld ti3 rfl se rfl (it rfl rfl rfl (sn rfl (R.done (hK8 _ _ (SW.cond rfl (fun hb1 => ?_) (fun hb1 => ?_))))))))))
    · have hM := cT hb1 hM
      refine SW.region <| ld (v := (.agg [(LI v2 .no), (I v3), (LInstr v4 .no)])) ti103 h4 sf rfl <| fp ti25 rfl rfl rfl (by decide) <| ld ti3 rfl se rfl <| R.op rfl (a_build (cs := [(I 6), (I x0.n), (I 0), (.str (⟨#[]⟩ : ByteArray))]) ti57 rfl rfl (pc rfl (pc rfl pn)) rfl ?_)
      obtain ⟨z0, hr0, hM⟩ := bd hM
      refine cp (r_s_l8Emit f (Sl8Maker.mk v2 v3 v4) (SInstr.mk 6 x0.n 0 (⟨#[]⟩ : ByteArray)) z0 hr0 _) rfl (oc rfl (oc rfl on)) (LeL.refl _) <| R.op rfl (a_store (cs' := (cl8Maker z0)) ti103 h4 rfl sf rfl (nb rfl) rfl rfl fun σ8 sh hF5 => ?_)
      have sj := hF5.keep sg (m1 (Ne.symm ne0))
      have sk := hF5.keep se (m1 (Ne.symm ne1))
      have t6 := t5.keep hF5 (not1 (tok_cells t5 sf))
      have F8 := F7.andThen hF5 lo0
      refine R.done ?_
      exact hJ1 v0 z0.slots z0.next z0.code tk1 _ _ F8 h3 h4 h5 h6 h7 sh sj (t6.len (by first | rfl | simp)) lo4 hM
    · have hM := cF hb1 hM
      refine SW.seqK fun K9 hK9 => ?_
      obtain ⟨J2, eJ2, hM⟩ := jn_elim hM
      have hJ2 : ∀ (v9 : Bool) (env3 : Env) (σ9 : St), Fr σ_0 σ9 [] → env3.get 1 = some (LTerm p_1 tk_1) → env3.get 2 = some (.ptr a0 0) → env3.get 4 = some (.ptr a1 0) → env3.get 6 = some (Lleft v0 tk1) → env3.get 7 = some (I v1) → env3.get 8 = some (.ptr a2 0) → env3.get 45 = some (.bool v9) → σ9 a0 = some (.cells [(LI v2 .no), (I v3), (LInstr v4 .no)]) → σ9 a1 = some (.cells [(LI ([] : List Int) .full), (I 0), (LInstr ([] : List SInstr) .full)]) → σ9 a2 = some (.cells (cTerm x0)) → TokOk σ9 tk1 v0.length 5 → J2 v9 = some r → K9 env3 σ9 := by
       intro v9 env3 σ9 F9 hd he hf hg hh hi hj sl sm so t7 hM
       subst eJ2
       refine hK9 _ _ <| SW.cond hj (fun hb2 => ?_) (fun hb2 => ?_)
       · have hM := cT hb2 hM
         refine SW.draw' mixed [(1, false), (3, false), (0, false), (2, false), (4, false), (5, false), (6, false), (7, false), (8, false), (9, false)] [] [] (by kernel_rfl) (by kernel_rfl) (fun t ht => by simp at ht) <| D.op rfl rfl (a_fieldPtr ti103 rfl he rfl (by decide) (D.op rfl rfl (a_fieldPtr ti25 rfl hi rfl (by decide) (D.op rfl rfl (a_loadPtr (v := (.agg [(LI v2 .no), (I v3), (LInstr v4 .no)])) ti103 he sl rfl (D.op rfl rfl (a_loadPtr ti76 rfl sl rfl (D.op rfl rfl (a_loadPtr ti3 rfl so rfl ?_)))))))))
         obtain ⟨hg1, hM⟩ := gd hM
         obtain ⟨x1, hx1, hM⟩ := bd hM
         refine D.op rfl rfl (a_idxImm (f := (AV.int .i64)) (xs := v2) (n := x0.n) (e := x1) (v := (I x1)) ti76 rfl ti3 rfl rfl rfl (od hg1) hx1 rfl (D.op rfl rfl (a_loadIptr ti3 rfl rfl (D.op rfl rfl (a_build (cs := [(I 5), (I x1), (I 0), (.str (⟨#[]⟩ : ByteArray))]) ti57 rfl rfl (pc rfl (pc rfl pn)) rfl ?_)))))
         obtain ⟨z1, hr1, hM⟩ := bd hM
         refine D.op rfl rfl (a_call (g := 118) rfl (oc rfl (oc rfl on)) (AC.goP (r_s_l8Emit f (Sl8Maker.mk v2 v3 v4) (SInstr.mk 5 x1 0 (⟨#[]⟩ : ByteArray)) z1 hr1 _) (LeL.refl _) (D.op rfl rfl (a_store (cs' := (cl8Maker z1)) ti103 he rfl sl rfl (nb rfl) rfl rfl fun σa sp hF6 => ?_))))
         have sq := hF6.keep sm (m1 (Ne.symm ne0))
         have sr := hF6.keep so (m1 (Ne.symm ne1))
         have t8 := t7.keep hF6 (not1 (tok_cells t7 sl))
         have Fa := F9.andThen hF6 lo0
         refine D.done ?_
         exact hJ1 v0 z1.slots z1.next z1.code tk1 _ _ Fa hd he hf hg hh sp sq (t8.len (by first | rfl | simp)) lo4 hM
       · have hM := cF hb2 hM
         refine SW.seqR fun Ka hKa => fp ti25 rfl hi rfl (by decide) <| ld ti3 rfl so rfl <| it rfl rfl rfl <| sn rfl <| R.done (hKa _ _ (SW.cond rfl (fun hb3 => ?_) (fun hb3 => ?_)))
         · have hM := cT hb3 hM
           refine SW.seqR fun Kb hKb => ld (v := (.agg [(LI v2 .no), (I v3), (LInstr v4 .no)])) ti103 he sl rfl <| fp ti25 rfl hi rfl (by decide) <| ld ti3 rfl so rfl <| fp ti103 rfl he rfl (by decide) <| ld ti3 rfl sl rfl ?_
           obtain ⟨z2, hr2, hM⟩ := bd hM
           refine cp (r_s_l8Slot f (Sl8Maker.mk v2 v3 v4) x0.n v3 z2 hr2 _) rfl (oc rfl (oc rfl (oc rfl on))) (LeL.refl _) <| R.op rfl (a_store (cs' := (cl8Maker z2)) ti103 he rfl sl rfl (nb rfl) rfl rfl fun σb ss hF7 => ?_)
           have st := hF7.keep sm (m1 (Ne.symm ne0))
           have su := hF7.keep so (m1 (Ne.symm ne1))
           have t9 := t7.keep hF7 (not1 (tok_cells t7 sl))
           have Fb := F9.andThen hF7 lo0
           refine R.done (hKb _ _ (SW.seqR fun Kc hKc => ld (v := (.agg (cl8Maker z2))) ti103 he ss rfl (fp ti103 rfl he rfl (by decide) (ld ti3 rfl ss rfl (R.op rfl (a_build (cs := [(I 4), (I z2.next), (I 0), (.str (⟨#[]⟩ : ByteArray))]) ti57 rfl rfl (pc rfl (pc rfl pn)) rfl ?_))))))
           obtain ⟨z3, hr3, hM⟩ := bd hM
           refine cp (r_s_l8Emit f z2 (SInstr.mk 4 z2.next 0 (⟨#[]⟩ : ByteArray)) z3 hr3 _) rfl (oc rfl (oc rfl on)) (LeL.refl _) <| R.op rfl (a_store (cs' := (cl8Maker z3)) ti103 he rfl ss rfl (nb rfl) rfl rfl fun σc sv hF8 => ?_)
           have sw := hF8.keep st (m1 (Ne.symm ne0))
           have ta := t9.keep hF8 (not1 (tok_cells t9 ss))
           have Fc := Fb.andThen hF8 lo0
           refine R.done (hKc _ _ (SW.region (fp ti103 rfl he rfl (by decide) (ld ti3 rfl sv rfl (it rfl rfl rfl (fp ti103 rfl he rfl (by decide) (R.op rfl (a_store (cs' := [(LI z3.slots .no), (I (IntKind.wrap .i64 (z3.next + 1))), (LInstr z3.code .no)]) ti3 rfl rfl sv rfl (nb rfl) rfl rfl fun σd sx hF9 => ?_))))))))
           have sy := hF9.keep sw (m1 (Ne.symm ne0))
           have tb := ta.keep hF9 (not1 (tok_cells ta sv))
           have Fd := Fc.andThen hF9 lo0
           refine R.done ?_
           exact hJ1 v0 z3.slots (IntKind.wrap .i64 (z3.next + 1)) z3.code tk1 _ _ Fd hd he hf hg hh sx sy (tb.len (by first | rfl | simp)) lo4 hM
         · have hM := cF hb3 hM
           refine SW.seqR fun Kd hKd => mv hg <| ld (v := (.agg (cTerm x0))) ti25 hi so rfl <| fp ti103 rfl he rfl (by decide) <| ld ti3 rfl sl rfl <| R.op rfl (a_build (cs := [(I x0.kind), (I x0.n), (.str x0.name), (LTerm x0.kids .no), (I v3)]) ti151 rfl rfl (pc rfl (pc rfl pn)) rfl (R.op rfl (a_buildSlice (v := (Lleft ([(Sleft.mk x0 v3)]) .full)) (bsv_of ti148 rfl ti151 (pc rfl pn) rfl ⟨rfl, by decide, by decide, rfl⟩) ?_)))
           obtain ⟨hg2, hM⟩ := gd hM
           refine R.op rfl (a_append (es := List.map eleft v0) (ds := List.map eleft ([(Sleft.mk x0 v3)])) (rs := List.map eleft (v0 ++ ([(Sleft.mk x0 v3)]))) ti148 rfl ti148 rfl ti151 rfl rfl (.inl rfl) rfl rfl (by decide) (by decide) (by simpa using od hg2) (.inl rfl) (t7.len (by first | rfl | simp)) (by simp) fun tk3 σe tc hFa nn0 => ?_)
           have lo7 := F9.loTk lo4 nn0
           have sz := hFa.keep sl (tok_cells t7 sl)
           have s10 := hFa.keep sm (tok_cells t7 sm)
           have s11 := hFa.keep so (tok_cells t7 so)
           have Fe := F9.andThen hFa lo4
           refine sn rfl <| R.done (hKd _ _ (SW.seqR fun Ke hKe => ld (v := (.agg [(LI v2 .no), (I v3), (LInstr v4 .no)])) ti103 he sz rfl (fp ti103 rfl he rfl (by decide) (ld ti3 rfl sz rfl (R.op rfl (a_build (cs := [(I 4), (I v3), (I 0), (.str (⟨#[]⟩ : ByteArray))]) ti57 rfl rfl (pc rfl (pc rfl pn)) rfl ?_))))))
           obtain ⟨z4, hr4, hM⟩ := bd hM
           refine cp (r_s_l8Emit f (Sl8Maker.mk v2 v3 v4) (SInstr.mk 4 v3 0 (⟨#[]⟩ : ByteArray)) z4 hr4 _) rfl (oc rfl (oc rfl on)) (LeL.refl _) <| R.op rfl (a_store (cs' := (cl8Maker z4)) ti103 he rfl sz rfl (nb rfl) rfl rfl fun σf s12 hFb => ?_)
           have s13 := hFb.keep s10 (m1 (Ne.symm ne0))
           have td := tc.keep hFb (not1 (tok_cells tc sz))
           have Ff := Fe.andThen hFb lo0
           refine R.done (hKe _ _ (SW.region (fp ti103 rfl he rfl (by decide) (ld ti3 rfl s12 rfl (it rfl rfl rfl (fp ti103 rfl he rfl (by decide) (R.op rfl (a_store (cs' := [(LI z4.slots .no), (I (IntKind.wrap .i64 (z4.next + 1))), (LInstr z4.code .no)]) ti3 rfl rfl s12 rfl (nb rfl) rfl rfl fun σg s14 hFc => ?_))))))))
           have s15 := hFc.keep s13 (m1 (Ne.symm ne0))
           have te := td.keep hFc (not1 (tok_cells td s12))
           have Fg := Ff.andThen hFc lo0
           refine R.done ?_
           exact hJ1 (v0 ++ ([(Sleft.mk x0 v3)])) z4.slots (IntKind.wrap .i64 (z4.next + 1)) z4.code tk3 _ _ Fg hd he hf rfl hh s14 s15 (te.len (by first | rfl | simp)) lo7 hM
      clear eJ2
      refine SW.region <| fp ti25 rfl rfl rfl (by decide) <| ld ti3 rfl se rfl <| it rfl rfl rfl <| mv rfl ?_
      rcases bcase (x0.kind == 1) with hb4 | hb4
      · have hM := cT hb4 hM
        refine R.go (x0.kind == 1) rfl hb4 (a_fieldPtr ti103 rfl h4 rfl (by decide) (R.go (x0.kind == 1) rfl hb4 (a_loadPtr ti76 rfl sf rfl (R.go (x0.kind == 1) rfl hb4 (a_fieldPtr ti25 rfl rfl rfl (by decide) (R.go (x0.kind == 1) rfl hb4 (a_loadPtr ti3 rfl se rfl ?_)))))))
        obtain ⟨hg3, hM⟩ := gd hM
        obtain ⟨x2, hx2, hM⟩ := bd hM
        refine R.go (x0.kind == 1) rfl hb4 (a_idxImm (f := (AV.int .i64)) (xs := v2) (n := x0.n) (e := x2) (v := (I x2)) ti76 rfl ti3 rfl rfl rfl (od hg3) hx2 rfl (R.go (x0.kind == 1) rfl hb4 (a_loadIptr ti3 rfl rfl (R.go (x0.kind == 1) rfl hb4 (a_int rfl rfl rfl (R.op rfl (a_pickT rfl hb4 rfl (sn rfl (R.done ?_)))))))))
        exact hJ2 (decide (0 ≤ x2)) _ _ F7 h3 h4 h5 h6 h7 rfl rfl sf sg se (t5.len (by first | rfl | simp)) hM
      · have hM := cF hb4 hM
        refine R.not (x0.kind == 1) rfl hb4 <| R.not (x0.kind == 1) rfl hb4 <| R.not (x0.kind == 1) rfl hb4 <| R.not (x0.kind == 1) rfl hb4 <| R.not (x0.kind == 1) rfl hb4 <| R.not (x0.kind == 1) rfl hb4 <| R.not (x0.kind == 1) rfl hb4 <| R.op rfl (a_pickF rfl hb4 rfl (sn rfl (R.done ?_)))
        exact hJ2 false _ _ F7 h3 h4 h5 h6 h7 rfl rfl sf sg se (t5.len (by first | rfl | simp)) hM
  · have hM := cF hb0 hM
    refine SW.exit <| Qte <| Qte <| Qbx ?_
    exact hJ0 v0 v2 v3 v4 tk1 _ _ F4 h4 h5 h6 s7 s8 (t2.len (by first | rfl | simp)) lo4 hM

end Go.Am
