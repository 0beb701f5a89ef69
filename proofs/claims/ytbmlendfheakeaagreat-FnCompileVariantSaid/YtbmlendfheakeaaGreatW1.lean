/-
  Walks of functions, printed by wip/py/gen2.py.
-/
import Derived.Test.YtbmlendfheakeaaGreatTypes
namespace Go.Am
open Go.Proofs
set_option maxRecDepth 100000
set_option linter.unusedVariables false

def M_s_l18Open (f : Nat) (p_0 : (List Int)) : Option (List Int × Int) :=
 jn (fun (v0 : List Int) => (
 some (v0, 0)
 )) fun J0 => (
 bif decide (2000 < (p_0.length : Int)) then (
 bif decide ((2000 : Int).toNat ≤ p_0.length) then
 J0 (List.take ((2000 : Int).toNat - 0) (List.drop 0 p_0))
 else none
 ) else (
 J0 p_0
 )
 )

theorem r_s_l18Open (f : Nat) (p_0 : (List Int)) (tk_0 : Tk) (r : List Int × Int) (hM : M_s_l18Open f p_0 = some r) (σ_0 : St) : AC Tryz.prog 20 [(LU p_0 tk_0)] σ_0 (fun v s => ∃ (b_0 : Nat) (tkn_0 : Tk), v = (.ptr b_0 0) ∧ s b_0 = some (.cells [(LU r.1 tkn_0), (I r.2)]) ∧ (∀ i ∈ [b_0], i ∈ [] ∨ σ_0 i = none) ∧ Fr σ_0 s []) := by
 have F_0 := Fr.refl σ_0 []
 unfold M_s_l18Open at hM
 refine AC.of_body Tryz.func20 rfl rfl (by rfl) (by simp [Tryz.f20]) <| SW.seqR fun K0 hK0 => sn rfl <| R.done (hK0 _ _ (SW.seqK fun K1 hK1 => ?_))
 obtain ⟨J0, eJ0, hM⟩ := jn_elim hM
 have hJ0 : ∀ (v0 : List Int) (tk0 : Tk) (env0 : Env) (σ0 : St), Fr σ_0 σ0 [] → env0.get 0 = some (LU v0 tk0) → J0 v0 = some r → K1 env0 σ0 := by
  intro v0 tk0 env0 σ0 F0 h0 hM
  subst eJ0
  refine hK1 _ _ <| SW.seqR fun K2 hK2 => mv h0 <| R.op rfl (a_build (cs := [(LU v0 tk0), (I 0)]) ti88 rfl rfl (pc rfl pn) rfl (R.op rfl (a_box (v := (.agg [(LU v0 tk0), (I 0)])) rfl rfl fun a0 σ1 n0 s0 hF0 => ?_)))
  have lo0 := F0.lo1 n0
  have F1 := F0.andThen hF0 Lo.nil
  refine sn rfl <| R.done (hK2 _ _ (SW.ret ?_))
  obtain rfl := si hM
  exact ret_of (rc rfl rn) (.ptr a0 0) _ (Le.refl _) (StLe.refl _) ⟨a0, tk0, rfl, s0, lo0.nn, F1⟩
 clear eJ0
 refine SW.seqR fun K3 hK3 => mv rfl <| R.op rfl (a_lenImm ti22 rfl rfl (n := (p_0.length : Int)) (by simp) (it rfl rfl rfl (R.done (hK3 _ _ (SW.cond rfl (fun hb0 => ?_) (fun hb0 => ?_))))))
 · have hM := cT hb0 hM
   refine SW.region <| mv rfl ?_
   obtain ⟨hg0, hM⟩ := gd hM
   refine R.op rfl (a_sliceImm (f := (AV.int .u8)) (xs := p_0) (l := 0) (h := (2000 : Int).toNat) ti22 rfl ti5 rfl rfl lowN (highS rfl (by decide)) (Nat.zero_le _) (od hg0) (sn rfl (R.done ?_)))
   exact hJ0 (List.take ((2000 : Int).toNat - 0) (List.drop 0 p_0)) .no _ _ F_0 rfl hM
 · have hM := cF hb0 hM
   refine SW.skip ?_
   exact hJ0 p_0 tk_0 _ _ F_0 rfl hM

def M_s_l1Struct (f : Nat) (p_0 : ByteArray) (p_1 : (List STerm)) : Option STerm :=
 bif decide (([] : List STerm).length + p_1.length ≤ 4294967296) then
 some ((STerm.mk 3 0 p_0 (([] : List STerm) ++ p_1)))
 else none

theorem r_s_l1Struct (f : Nat) (p_0 : ByteArray) (p_1 : (List STerm)) (tk_1 : Tk) (r : STerm) (hM : M_s_l1Struct f p_0 p_1 = some r) (σ_0 : St) : AC Tryz.prog 51 [(.str p_0), (LTerm p_1 tk_1)] σ_0 (fun v s => ∃ (tkr_0 : Tk), v = (.agg [(I r.kind), (I r.n), (.str r.name), (LTerm r.kids tkr_0)]) ∧ TokOk s tkr_0 r.kids.length 4 ∧ (∀ i ∈ tkNames tkr_0, i ∈ [] ∨ σ_0 i = none) ∧ Fr σ_0 s []) := by
 have F_0 := Fr.refl σ_0 []
 unfold M_s_l1Struct at hM
 refine AC.of_body Tryz.func51 rfl rfl (by rfl) (by simp [Tryz.f51]) <| SW.seqR fun K0 hK0 => alTerm fun a0 σ0 n0 s0 hF0 => ?_
 have lo0 := F_0.lo1 n0
 have F0 := F_0.andThen hF0 Lo.nil
 refine R.done (hK0 _ _ (SW.seqR fun K1 hK1 => mv rfl (R.op rfl (a_buildSlice (v := (LTerm ([] : List STerm) .full)) (bsv_of ti23 rfl ti25 pn rfl ⟨rfl, by decide, by decide, rfl⟩) (mv rfl ?_)))))
 obtain ⟨hg0, hM⟩ := gd hM
 refine R.op rfl (a_append (es := List.map eTerm ([] : List STerm)) (ds := List.map eTerm p_1) (rs := List.map eTerm (([] : List STerm) ++ p_1)) ti23 rfl ti23 rfl ti25 rfl rfl (.inl rfl) rfl rfl (by decide) (by decide) (by simpa using od hg0) (.inl rfl) trivial (by simp) fun tk0 σ1 t0 hF1 nn0 => ?_)
 have lo2 := F0.loTk Lo.full nn0
 have s1 := hF1.keep s0 (by simp [tkNames])
 have F1 := F0.andThen hF1 Lo.full
 refine R.op rfl (a_build (cs := [(I 3), (I 0), (.str p_0), (LTerm (([] : List STerm) ++ p_1) tk0)]) ti25 rfl rfl (pc rfl (pc rfl (pc rfl pn))) rfl (R.op rfl (a_store (cs' := [(I 3), (I 0), (.str p_0), (LTerm (([] : List STerm) ++ p_1) tk0)]) ti25 rfl rfl s1 rfl (nb rfl) rfl rfl fun σ2 s2 hF2 => ?_)))
 have t1 := t0.keep hF2 (not1 (tok_cells t0 s1))
 have F2 := F1.andThen hF2 lo0
 refine R.done (hK1 _ _ (SW.ret ?_))
 obtain rfl := si hM
 exact ret_of (rcc ti25 rfl s2 rfl rn) (.agg [(I ((STerm.mk 3 0 p_0 (([] : List STerm) ++ p_1)).kind)), (I ((STerm.mk 3 0 p_0 (([] : List STerm) ++ p_1)).n)), (.str ((STerm.mk 3 0 p_0 (([] : List STerm) ++ p_1)).name)), (LTerm ((STerm.mk 3 0 p_0 (([] : List STerm) ++ p_1)).kids) tk0)]) _ (Le.refl _) (StLe.refl _) ⟨tk0, rfl, (t1.len (by first | rfl | simp)), lo2.nn, F2⟩

def M_s_l4Texts (f : Nat) : Option (List ByteArray) :=
 some ([(⟨#[97, 112, 112, 40, 91, 93, 44, 65, 44, 65, 41, 46, 10, 97, 112, 112, 40, 91, 65, 124, 66, 93, 44, 67, 44, 91, 65, 124, 68, 93, 41, 58, 45, 97, 112, 112, 40, 66, 44, 67, 44, 68, 41, 46, 10]⟩ : ByteArray), (⟨#[109, 101, 109, 40, 65, 44, 91, 65, 124, 66, 93, 41, 46, 10, 109, 101, 109, 40, 65, 44, 91, 66, 124, 67, 93, 41, 58, 45, 109, 101, 109, 40, 65, 44, 67, 41, 46, 10]⟩ : ByteArray), (⟨#[112, 40, 49, 41, 46, 10, 112, 40, 50, 41, 46, 10, 112, 40, 51, 41, 46, 10, 113, 40, 65, 41, 58, 45, 112, 40, 65, 41, 44, 65, 62, 49, 44, 33, 46, 10, 114, 40, 65, 44, 66, 41, 58, 45, 112, 40, 65, 41, 44, 112, 40, 66, 41, 46, 10]⟩ : ByteArray), (⟨#[108, 101, 110, 40, 91, 93, 44, 48, 41, 46, 10, 108, 101, 110, 40, 91, 65, 124, 66, 93, 44, 67, 41, 58, 45, 108, 101, 110, 40, 66, 44, 68, 41, 44, 67, 32, 105, 115, 32, 68, 43, 49, 46, 10]⟩ : ByteArray), (⟨#[109, 97, 120, 40, 65, 44, 66, 44, 65, 41, 58, 45, 65, 62, 61, 66, 44, 33, 46, 10, 109, 97, 120, 40, 65, 44, 66, 44, 66, 41, 46, 10]⟩ : ByteArray), (⟨#[101, 40, 97, 44, 98, 41, 46, 10, 101, 40, 98, 44, 99, 41, 46, 10, 101, 40, 99, 44, 100, 41, 46, 10, 116, 40, 65, 44, 66, 41, 58, 45, 101, 40, 65, 44, 66, 41, 46, 10, 116, 40, 65, 44, 66, 41, 58, 45, 101, 40, 65, 44, 67, 41, 44, 116, 40, 67, 44, 66, 41, 46, 10]⟩ : ByteArray), (⟨#[108, 111, 111, 112, 58, 45, 108, 111, 111, 112, 46, 10, 111, 107, 46, 10]⟩ : ByteArray), (⟨#[102, 97, 99, 40, 48, 44, 49, 41, 58, 45, 33, 46, 10, 102, 97, 99, 40, 65, 44, 66, 41, 58, 45, 65, 62, 48, 44, 67, 32, 105, 115, 32, 65, 45, 49, 44, 102, 97, 99, 40, 67, 44, 68, 41, 44, 66, 32, 105, 115, 32, 65, 42, 68, 46, 10]⟩ : ByteArray), (⟨#[115, 40, 65, 41, 58, 45, 65, 61, 102, 40, 66, 41, 44, 97, 114, 103, 40, 49, 44, 65, 44, 66, 41, 44, 66, 61, 49, 46, 10, 115, 40, 65, 41, 58, 45, 118, 97, 114, 40, 65, 41, 44, 65, 61, 110, 111, 110, 101, 46, 10]⟩ : ByteArray), (⟨#[114, 101, 118, 40, 91, 93, 44, 65, 44, 65, 41, 46, 10, 114, 101, 118, 40, 91, 65, 124, 66, 93, 44, 67, 44, 68, 41, 58, 45, 114, 101, 118, 40, 66, 44, 91, 65, 124, 67, 93, 44, 68, 41, 46, 10]⟩ : ByteArray), (⟨#[98, 97, 100, 40, 65, 41, 58, 45, 66, 32, 105, 115, 32, 65, 43, 102, 111, 111, 44, 67, 61, 66, 46, 10, 98, 105, 103, 40, 65, 41, 58, 45, 65, 32, 105, 115, 32, 57, 57, 57, 43, 49, 46, 10, 117, 110, 40, 65, 41, 58, 45, 110, 111, 115, 117, 99, 104, 40, 65, 41, 46, 10]⟩ : ByteArray)])

theorem r_s_l4Texts (f : Nat) (r : (List ByteArray)) (hM : M_s_l4Texts f = some r) (σ_0 : St) : AC Tryz.prog 98 [] σ_0 (fun v s => v = (LS r .full) ∧ s = σ_0) := by
 have F_0 := Fr.refl σ_0 []
 unfold M_s_l4Texts at hM
 refine AC.of_body Tryz.func98 rfl rfl (by rfl) (by simp [Tryz.f98]) <| SW.seqR fun K0 hK0 => R.opLe rfl (a_assign (v := (.imm 0 [] .full)) rfl ⟨(LS ([] : List ByteArray) .full), Le.empty' _ _ _ rfl, (R.done (hK0 _ _ (SW.seqR fun K1 hK1 => R.op rfl (a_buildSlice (v := (LS ([(⟨#[97, 112, 112, 40, 91, 93, 44, 65, 44, 65, 41, 46, 10, 97, 112, 112, 40, 91, 65, 124, 66, 93, 44, 67, 44, 91, 65, 124, 68, 93, 41, 58, 45, 97, 112, 112, 40, 66, 44, 67, 44, 68, 41, 46, 10]⟩ : ByteArray), (⟨#[109, 101, 109, 40, 65, 44, 91, 65, 124, 66, 93, 41, 46, 10, 109, 101, 109, 40, 65, 44, 91, 66, 124, 67, 93, 41, 58, 45, 109, 101, 109, 40, 65, 44, 67, 41, 46, 10]⟩ : ByteArray), (⟨#[112, 40, 49, 41, 46, 10, 112, 40, 50, 41, 46, 10, 112, 40, 51, 41, 46, 10, 113, 40, 65, 41, 58, 45, 112, 40, 65, 41, 44, 65, 62, 49, 44, 33, 46, 10, 114, 40, 65, 44, 66, 41, 58, 45, 112, 40, 65, 41, 44, 112, 40, 66, 41, 46, 10]⟩ : ByteArray), (⟨#[108, 101, 110, 40, 91, 93, 44, 48, 41, 46, 10, 108, 101, 110, 40, 91, 65, 124, 66, 93, 44, 67, 41, 58, 45, 108, 101, 110, 40, 66, 44, 68, 41, 44, 67, 32, 105, 115, 32, 68, 43, 49, 46, 10]⟩ : ByteArray), (⟨#[109, 97, 120, 40, 65, 44, 66, 44, 65, 41, 58, 45, 65, 62, 61, 66, 44, 33, 46, 10, 109, 97, 120, 40, 65, 44, 66, 44, 66, 41, 46, 10]⟩ : ByteArray), (⟨#[101, 40, 97, 44, 98, 41, 46, 10, 101, 40, 98, 44, 99, 41, 46, 10, 101, 40, 99, 44, 100, 41, 46, 10, 116, 40, 65, 44, 66, 41, 58, 45, 101, 40, 65, 44, 66, 41, 46, 10, 116, 40, 65, 44, 66, 41, 58, 45, 101, 40, 65, 44, 67, 41, 44, 116, 40, 67, 44, 66, 41, 46, 10]⟩ : ByteArray), (⟨#[108, 111, 111, 112, 58, 45, 108, 111, 111, 112, 46, 10, 111, 107, 46, 10]⟩ : ByteArray), (⟨#[102, 97, 99, 40, 48, 44, 49, 41, 58, 45, 33, 46, 10, 102, 97, 99, 40, 65, 44, 66, 41, 58, 45, 65, 62, 48, 44, 67, 32, 105, 115, 32, 65, 45, 49, 44, 102, 97, 99, 40, 67, 44, 68, 41, 44, 66, 32, 105, 115, 32, 65, 42, 68, 46, 10]⟩ : ByteArray), (⟨#[115, 40, 65, 41, 58, 45, 65, 61, 102, 40, 66, 41, 44, 97, 114, 103, 40, 49, 44, 65, 44, 66, 41, 44, 66, 61, 49, 46, 10, 115, 40, 65, 41, 58, 45, 118, 97, 114, 40, 65, 41, 44, 65, 61, 110, 111, 110, 101, 46, 10]⟩ : ByteArray), (⟨#[114, 101, 118, 40, 91, 93, 44, 65, 44, 65, 41, 46, 10, 114, 101, 118, 40, 91, 65, 124, 66, 93, 44, 67, 44, 68, 41, 58, 45, 114, 101, 118, 40, 66, 44, 91, 65, 124, 67, 93, 44, 68, 41, 46, 10]⟩ : ByteArray), (⟨#[98, 97, 100, 40, 65, 41, 58, 45, 66, 32, 105, 115, 32, 65, 43, 102, 111, 111, 44, 67, 61, 66, 46, 10, 98, 105, 103, 40, 65, 41, 58, 45, 65, 32, 105, 115, 32, 57, 57, 57, 43, 49, 46, 10, 117, 110, 40, 65, 41, 58, 45, 110, 111, 115, 117, 99, 104, 40, 65, 41, 46, 10]⟩ : ByteArray)]) .full)) (bsv_of ti91 rfl ti9 (pc rfl (pc rfl (pc rfl (pc rfl (pc rfl (pc rfl (pc rfl (pc rfl (pc rfl (pc rfl (pc rfl pn))))))))))) rfl ⟨rfl, by decide, by decide, rfl⟩) (sn rfl (R.done (hK1 _ _ (SW.ret ?_))))))))⟩)
 obtain rfl := si hM
 exact ret_of (rc rfl rn) (LS ([(⟨#[97, 112, 112, 40, 91, 93, 44, 65, 44, 65, 41, 46, 10, 97, 112, 112, 40, 91, 65, 124, 66, 93, 44, 67, 44, 91, 65, 124, 68, 93, 41, 58, 45, 97, 112, 112, 40, 66, 44, 67, 44, 68, 41, 46, 10]⟩ : ByteArray), (⟨#[109, 101, 109, 40, 65, 44, 91, 65, 124, 66, 93, 41, 46, 10, 109, 101, 109, 40, 65, 44, 91, 66, 124, 67, 93, 41, 58, 45, 109, 101, 109, 40, 65, 44, 67, 41, 46, 10]⟩ : ByteArray), (⟨#[112, 40, 49, 41, 46, 10, 112, 40, 50, 41, 46, 10, 112, 40, 51, 41, 46, 10, 113, 40, 65, 41, 58, 45, 112, 40, 65, 41, 44, 65, 62, 49, 44, 33, 46, 10, 114, 40, 65, 44, 66, 41, 58, 45, 112, 40, 65, 41, 44, 112, 40, 66, 41, 46, 10]⟩ : ByteArray), (⟨#[108, 101, 110, 40, 91, 93, 44, 48, 41, 46, 10, 108, 101, 110, 40, 91, 65, 124, 66, 93, 44, 67, 41, 58, 45, 108, 101, 110, 40, 66, 44, 68, 41, 44, 67, 32, 105, 115, 32, 68, 43, 49, 46, 10]⟩ : ByteArray), (⟨#[109, 97, 120, 40, 65, 44, 66, 44, 65, 41, 58, 45, 65, 62, 61, 66, 44, 33, 46, 10, 109, 97, 120, 40, 65, 44, 66, 44, 66, 41, 46, 10]⟩ : ByteArray), (⟨#[101, 40, 97, 44, 98, 41, 46, 10, 101, 40, 98, 44, 99, 41, 46, 10, 101, 40, 99, 44, 100, 41, 46, 10, 116, 40, 65, 44, 66, 41, 58, 45, 101, 40, 65, 44, 66, 41, 46, 10, 116, 40, 65, 44, 66, 41, 58, 45, 101, 40, 65, 44, 67, 41, 44, 116, 40, 67, 44, 66, 41, 46, 10]⟩ : ByteArray), (⟨#[108, 111, 111, 112, 58, 45, 108, 111, 111, 112, 46, 10, 111, 107, 46, 10]⟩ : ByteArray), (⟨#[102, 97, 99, 40, 48, 44, 49, 41, 58, 45, 33, 46, 10, 102, 97, 99, 40, 65, 44, 66, 41, 58, 45, 65, 62, 48, 44, 67, 32, 105, 115, 32, 65, 45, 49, 44, 102, 97, 99, 40, 67, 44, 68, 41, 44, 66, 32, 105, 115, 32, 65, 42, 68, 46, 10]⟩ : ByteArray), (⟨#[115, 40, 65, 41, 58, 45, 65, 61, 102, 40, 66, 41, 44, 97, 114, 103, 40, 49, 44, 65, 44, 66, 41, 44, 66, 61, 49, 46, 10, 115, 40, 65, 41, 58, 45, 118, 97, 114, 40, 65, 41, 44, 65, 61, 110, 111, 110, 101, 46, 10]⟩ : ByteArray), (⟨#[114, 101, 118, 40, 91, 93, 44, 65, 44, 65, 41, 46, 10, 114, 101, 118, 40, 91, 65, 124, 66, 93, 44, 67, 44, 68, 41, 58, 45, 114, 101, 118, 40, 66, 44, 91, 65, 124, 67, 93, 44, 68, 41, 46, 10]⟩ : ByteArray), (⟨#[98, 97, 100, 40, 65, 41, 58, 45, 66, 32, 105, 115, 32, 65, 43, 102, 111, 111, 44, 67, 61, 66, 46, 10, 98, 105, 103, 40, 65, 41, 58, 45, 65, 32, 105, 115, 32, 57, 57, 57, 43, 49, 46, 10, 117, 110, 40, 65, 41, 58, 45, 110, 111, 115, 117, 99, 104, 40, 65, 41, 46, 10]⟩ : ByteArray)]) .full) σ_0 (Le.refl _) F_0.back ⟨rfl, rfl⟩

def L_s_l18Cut_1 (p_0 : ByteArray) (p_1 : Int) (J0 : List ByteArray → Option (List ByteArray)) : Nat → List ByteArray → Int → Int → Option (List ByteArray)
 | 0, _, _, _ => none
 | n + 1, v0, v1, v2 =>
 bif decide (v2 ≤ (p_0.size : Int)) then (
 jn (fun (v3 : List ByteArray) (v4 : Int) => (
 L_s_l18Cut_1 p_0 p_1 J0 n v3 v4 (IntKind.wrap .i64 (v2 + 1))
 )) fun J1 => (
 jn (fun (v5 : Bool) => (
 bif v5 then (
 bif decide (0 ≤ v1) then
 bif decide (0 ≤ v2) then
 bif decide ((v1 : Int).toNat ≤ (v2 : Int).toNat) then
 bif decide ((v2 : Int).toNat ≤ p_0.size) then
 bif decide (v0.length + ([(p_0.extract ((v1 : Int).toNat) ((v2 : Int).toNat))]).length ≤ 4294967296) then
 J1 (v0 ++ ([(p_0.extract ((v1 : Int).toNat) ((v2 : Int).toNat))])) (IntKind.wrap .i64 (v2 + 1))
 else none
 else none
 else none
 else none
 else none
 ) else (
 J1 v0 v1
 )
 )) fun J2 => (
 bif (v2 == (p_0.size : Int)) then (
 J2 true
 ) else (
 bif decide (0 ≤ v2) then
 Option.bind (p_0.data[(v2 : Int).toNat]?) fun x0 =>
 J2 ((x0.toNat : Int) == p_1)
 else none
 )
 )
 )
 ) else (
 J0 v0
 )

def M_s_l18Cut (f : Nat) (p_0 : ByteArray) (p_1 : Int) : Option (List ByteArray) :=
 jn (fun (v6 : List ByteArray) => (
 some (v6)
 )) fun J0 => (
 L_s_l18Cut_1 p_0 p_1 J0 f ([] : List ByteArray) 0 0
 )

theorem r_s_l18Cut (f : Nat) (p_0 : ByteArray) (p_1 : Int) (r : (List ByteArray)) (hM : M_s_l18Cut f p_0 p_1 = some r) (σ_0 : St) : AC Tryz.prog 136 [(.str p_0), (U p_1)] σ_0 (fun v s => v = (LS r .no) ∧ s = σ_0) := by
 have F_0 := Fr.refl σ_0 []
 unfold M_s_l18Cut at hM
 refine AC.of_body Tryz.func136 rfl rfl (by rfl) (by simp [Tryz.f136]) <| SW.seqR fun K0 hK0 => R.opLe rfl (a_assign (v := (.imm 0 [] .full)) rfl ⟨(LS ([] : List ByteArray) .full), Le.empty' _ _ _ rfl, (R.done (hK0 _ _ (SW.seqR fun K1 hK1 => R.op rfl (a_buildSlice (v := (LS ([] : List ByteArray) .full)) (bsv_of ti91 rfl ti9 pn rfl ⟨rfl, by decide, by decide, rfl⟩) (sn rfl (R.done (hK1 _ _ (SW.seqR fun K2 hK2 => sn rfl (R.done (hK2 _ _ (SW.seqK fun K3 hK3 => ?_)))))))))))⟩)
 obtain ⟨J0, eJ0, hM⟩ := jn_elim hM
 have hJ0 : ∀ (v6 : List ByteArray) (tk0 : Tk) (env0 : Env) (σ0 : St), Fr σ_0 σ0 [] → env0.get 5 = some (LS v6 tk0) → TokOk σ0 tk0 v6.length 1 → Lo σ_0 [] (tkNames tk0) → J0 v6 = some r → K3 env0 σ0 := by
  intro v6 tk0 env0 σ0 F0 h0 t0 lo0 hM
  subst eJ0
  refine hK3 _ _ <| SW.seqR fun K4 hK4 => mv h0 <| sn rfl <| R.done (hK4 _ _ (SW.ret ?_))
  obtain rfl := si hM
  exact ret_of (rc rfl rn) (LS v6 .no) σ_0 (Le.tok _ _ _) F0.back ⟨rfl, rfl⟩
 clear eJ0
 refine SW.seqR fun K5 hK5 => sn rfl <| R.done (hK5 _ _ (SW.block (SW.loop (LW.ind (I := fun n0 env1 σ1 => ∃ (v0 : List ByteArray) (v1 : Int) (v2 : Int) (tk1 : Tk), Fr σ_0 σ1 [] ∧ env1.get 0 = some (.str p_0) ∧ env1.get 1 = some (U p_1) ∧ env1.get 5 = some (LS v0 tk1) ∧ env1.get 6 = some (I v1) ∧ env1.get 7 = some (I v2) ∧ TokOk σ1 tk1 v0.length 1 ∧ Lo σ_0 [] (tkNames tk1) ∧ L_s_l18Cut_1 p_0 p_1 J0 n0 v0 v1 v2 = some r) ?_ f _ _ ⟨([] : List ByteArray), 0, 0, .full, F_0, rfl, rfl, rfl, rfl, rfl, trivial, Lo.full, hM⟩))))
 rintro n0 env1 σ1 ⟨v0, v1, v2, tk1, F1, h1, h2, h3, h4, h5, t1, lo1, hM⟩
 cases n0 with
 | zero => (rw [L_s_l18Cut_1] at hM; cases hM)
 | succ n0 =>
  rw [L_s_l18Cut_1] at hM
  refine SW.seq <| SW.seqR fun K6 hK6 => mv h5 <| mv h1 <| R.op rfl (a_lenStr ti9 rfl rfl (it rfl rfl rfl (R.done (hK6 _ _ (SW.cond rfl (fun hb0 => ?_) (fun hb0 => ?_))))))
  · have hM := cT hb0 hM
    refine SW.skip <| SW.seqK fun K7 hK7 => ?_
    obtain ⟨J1, eJ1, hM⟩ := jn_elim hM
    have hJ1 : ∀ (v3 : List ByteArray) (v4 : Int) (tk2 : Tk) (env2 : Env) (σ2 : St), Fr σ_0 σ2 [] → env2.get 0 = some (.str p_0) → env2.get 1 = some (U p_1) → env2.get 5 = some (LS v3 tk2) → env2.get 6 = some (I v4) → env2.get 7 = some (I v2) → TokOk σ2 tk2 v3.length 1 → Lo σ_0 [] (tkNames tk2) → J1 v3 v4 = some r → K7 env2 σ2 := by
     intro v3 v4 tk2 env2 σ2 F2 h6 h7 h8 h9 ha t2 lo2 hM
     subst eJ1
     refine hK7 _ _ <| SW.region <| mv ha <| it rfl rfl rfl <| sn rfl <| R.done ?_
     exact ⟨n0, Nat.lt_succ_self _, v3, v4, (IntKind.wrap .i64 (v2 + 1)), tk2, F2, h6, h7, h8, h9, rfl, (t2.len (by first | rfl | simp)), lo2, hM⟩
    clear eJ1
    refine SW.block <| SW.seqK fun K8 hK8 => ?_
    obtain ⟨J2, eJ2, hM⟩ := jn_elim hM
    have hJ2 : ∀ (v5 : Bool) (env3 : Env) (σ3 : St), Fr σ_0 σ3 [] → env3.get 0 = some (.str p_0) → env3.get 1 = some (U p_1) → env3.get 5 = some (LS v0 tk1) → env3.get 6 = some (I v1) → env3.get 7 = some (I v2) → env3.get 25 = some (.bool v5) → TokOk σ3 tk1 v0.length 1 → J2 v5 = some r → K8 env3 σ3 := by
     intro v5 env3 σ3 F3 hb hc hd he hf hg t3 hM
     subst eJ2
     refine hK8 _ _ <| SW.cond hg (fun hb1 => ?_) (fun hb1 => ?_)
     · have hM := cT hb1 hM
       refine SW.seqR fun K9 hK9 => mv hd <| mv hb <| mv he <| mv hf ?_
       obtain ⟨hg0, hM⟩ := gd hM
       obtain ⟨hg1, hM⟩ := gd hM
       obtain ⟨hg2, hM⟩ := gd hM
       obtain ⟨hg3, hM⟩ := gd hM
       refine R.op rfl (a_sliceStr (l := (v1 : Int).toNat) (h := (v2 : Int).toNat) ti9 rfl rfl (lowS rfl (od hg0)) (highS rfl (od hg1)) (od hg2) (od hg3) (R.op rfl (a_buildSlice (v := (LS ([(p_0.extract ((v1 : Int).toNat) ((v2 : Int).toNat))]) .full)) (bsv_of ti91 rfl ti9 (pc rfl pn) rfl ⟨rfl, by decide, by decide, rfl⟩) ?_)))
       obtain ⟨hg4, hM⟩ := gd hM
       refine R.op rfl (a_append (es := List.map AV.str v0) (ds := List.map AV.str ([(p_0.extract ((v1 : Int).toNat) ((v2 : Int).toNat))])) (rs := List.map AV.str (v0 ++ ([(p_0.extract ((v1 : Int).toNat) ((v2 : Int).toNat))]))) ti91 rfl ti91 rfl ti9 rfl rfl (.inl rfl) rfl rfl (by decide) (by decide) (by simpa using od hg4) (.inl rfl) (t3.len (by first | rfl | simp)) (by simp) fun tk3 σ4 t4 hF0 nn0 => ?_)
       have lo3 := F3.loTk lo1 nn0
       have F4 := F3.andThen hF0 lo1
       refine sn rfl <| R.done (hK9 _ _ (SW.region (mv hf (it rfl rfl rfl (sn rfl (R.done ?_))))))
       exact hJ1 (v0 ++ ([(p_0.extract ((v1 : Int).toNat) ((v2 : Int).toNat))])) (IntKind.wrap .i64 (v2 + 1)) tk3 _ _ F4 hb hc rfl rfl hf (t4.len (by first | rfl | simp)) lo3 hM
     · have hM := cF hb1 hM
       refine SW.skip ?_
       exact hJ1 v0 v1 tk1 _ _ F3 hb hc hd he hf (t3.len (by first | rfl | simp)) lo1 hM
    clear eJ2
    refine SW.region <| mv h5 <| mv h1 <| R.op rfl (a_lenStr ti9 rfl rfl (it rfl rfl rfl (mv rfl ?_)))
    rcases bcase (v2 == (p_0.size : Int)) with hb2 | hb2
    · have hM := cT hb2 hM
      refine R.notf (v2 == (p_0.size : Int)) rfl hb2 <| R.notf (v2 == (p_0.size : Int)) rfl hb2 <| R.notf (v2 == (p_0.size : Int)) rfl hb2 <| R.notf (v2 == (p_0.size : Int)) rfl hb2 <| R.notf (v2 == (p_0.size : Int)) rfl hb2 <| R.op rfl (a_pickT rfl hb2 rfl (R.done ?_))
      exact hJ2 true _ _ F1 h1 h2 h3 h4 h5 rfl (t1.len (by first | rfl | simp)) hM
    · have hM := cF hb2 hM
      refine R.gof (v2 == (p_0.size : Int)) rfl hb2 (a_move h1 (R.gof (v2 == (p_0.size : Int)) rfl hb2 (a_move h5 ?_)))
      obtain ⟨hg5, hM⟩ := gd hM
      obtain ⟨x0, hx0, hM⟩ := bd hM
      refine R.gof (v2 == (p_0.size : Int)) rfl hb2 (a_idxStr (n := v2) (b := x0) ti9 rfl rfl rfl (od hg5) hx0 (R.gof (v2 == (p_0.size : Int)) rfl hb2 (a_move h2 (R.gof (v2 == (p_0.size : Int)) rfl hb2 (a_int rfl rfl rfl (R.op rfl (a_pickF rfl hb2 rfl (R.done ?_))))))))
      exact hJ2 ((x0.toNat : Int) == p_1) _ _ F1 h1 h2 h3 h4 h5 rfl (t1.len (by first | rfl | simp)) hM
  · have hM := cF hb0 hM
    refine SW.exit <| Qte <| Qte <| Qbx ?_
    exact hJ0 v0 tk1 _ _ F1 h3 (t1.len (by first | rfl | simp)) lo1 hM

def L_s_l1Copy_1 (c_s_l1Copy : STerm → Option STerm) (p_0 : STerm) (J0 : List STerm → Option STerm) : Nat → Int → List STerm → Option STerm
 | 0, _, _ => none
 | n + 1, v0, v1 =>
 bif decide (v0 < (p_0.kids.length : Int)) then (
 bif decide (0 ≤ v0) then
 Option.bind (p_0.kids[(v0 : Int).toNat]?) fun x0 =>
 Option.bind (c_s_l1Copy x0) fun z0 =>
 bif decide (v1.length + ([z0]).length ≤ 4294967296) then
 L_s_l1Copy_1 c_s_l1Copy p_0 J0 n (IntKind.wrap .i64 (v0 + 1)) (v1 ++ ([z0]))
 else none
 else none
 ) else (
 J0 v1
 )

def B_s_l1Copy (f : Nat) (c_s_l1Copy : STerm → Option STerm) (p_0 : STerm) : Option STerm :=
 jn (fun (v2 : List STerm) => (
 some ((STerm.mk p_0.kind p_0.n p_0.name v2))
 )) fun J0 => (
 L_s_l1Copy_1 c_s_l1Copy p_0 J0 f 0 ([] : List STerm)
 )

def M_s_l1Copy : Nat → STerm → Option STerm
 | 0, _ => none
 | f + 1, p_0 => B_s_l1Copy f (M_s_l1Copy f) p_0

def Q_s_l1Copy (c : STerm → Option STerm) : Prop := ∀ (p_0 : STerm) (r : STerm), c p_0 = some r → ∀ (σ_0 : St), AC Tryz.prog 97 [(.agg (cTerm p_0))] σ_0 (fun v s => ∃ (tkr_0 : Tk), v = (.agg [(I r.kind), (I r.n), (.str r.name), (LTerm r.kids tkr_0)]) ∧ TokOk s tkr_0 r.kids.length 4 ∧ (∀ i ∈ tkNames tkr_0, i ∈ [] ∨ σ_0 i = none) ∧ Fr σ_0 s [])

theorem b_s_l1Copy (f : Nat) {c_s_l1Copy : STerm → Option STerm} (ih_s_l1Copy : Q_s_l1Copy c_s_l1Copy) : Q_s_l1Copy (B_s_l1Copy f c_s_l1Copy) := by
 intro p_0 r hM σ_0
 have F_0 := Fr.refl σ_0 []
 unfold B_s_l1Copy at hM
 refine AC.of_body Tryz.func97 rfl rfl (by rfl) (by simp [Tryz.f97]) <| SW.seqR fun K0 hK0 => R.op rfl (a_box (v := (.agg (cTerm p_0))) rfl rfl fun a0 σ0 n0 s0 hF0 => ?_)
 have lo0 := F_0.lo1 n0
 have F0 := F_0.andThen hF0 Lo.nil
 refine alTerm fun a1 σ1 n1 s1 hF1 => ?_
 have ne0 := ne_new n1 s0
 have lo2 := F0.lo1 n1
 have s2 := hF1.keep s0 (by simp)
 have F1 := F0.andThen hF1 Lo.nil
 refine R.done (hK0 _ _ (SW.seqR fun K1 hK1 => fp ti25 rfl rfl rfl (by decide) (ld ti3 rfl s2 rfl (fp ti25 rfl rfl rfl (by decide) (ld ti3 rfl s2 rfl (fp ti25 rfl rfl rfl (by decide) (ld ti9 rfl s2 rfl (R.opLe rfl (a_build (cs := [(I p_0.kind), (I p_0.n), (.str p_0.name), (.imm 0 [] .full)]) ti25 rfl rfl (pc rfl (pc rfl (pc rfl pn))) rfl ⟨(.agg [(I p_0.kind), (I p_0.n), (.str p_0.name), (LTerm ([] : List STerm) .full)]), Le.agg (LeL.cons (Le.refl _) (LeL.cons (Le.refl _) (LeL.cons (Le.refl _) (LeL.cons (Le.empty' _ _ _ rfl) LeL.nil)))), (alTerm fun a2 σ2 n2 s3 hF2 => ?_)⟩)))))))))
 have ne1 := ne_new n2 s2
 have ne2 := ne_new n2 s1
 have lo3 := F1.lo1 n2
 have s4 := hF2.keep s2 (by simp)
 have s5 := hF2.keep s1 (by simp)
 have F2 := F1.andThen hF2 Lo.nil
 refine R.op rfl (a_store (cs' := [(I p_0.kind), (I p_0.n), (.str p_0.name), (LTerm ([] : List STerm) .full)]) ti25 rfl rfl s3 rfl (nb rfl) rfl rfl fun σ3 s6 hF3 => ?_)
 have s7 := hF3.keep s4 (m1 ne1)
 have s8 := hF3.keep s5 (m1 ne2)
 have F3 := F2.andThen hF3 lo3
 refine R.done (hK1 _ _ (SW.seqK fun K2 hK2 => ?_))
 obtain ⟨J0, eJ0, hM⟩ := jn_elim hM
 have hJ0 : ∀ (v2 : List STerm) (tk0 : Tk) (env0 : Env) (σ4 : St), Fr σ_0 σ4 [] → env0.get 2 = some (.ptr a1 0) → env0.get 3 = some (.ptr a2 0) → σ4 a0 = some (.cells (cTerm p_0)) → σ4 a1 = some (.cells [(I 0), (I 0), (.str (⟨#[]⟩ : ByteArray)), (LTerm ([] : List STerm) .full)]) → σ4 a2 = some (.cells [(I p_0.kind), (I p_0.n), (.str p_0.name), (LTerm v2 tk0)]) → TokOk σ4 tk0 v2.length 4 → Lo σ_0 [] (tkNames tk0) → J0 v2 = some r → K2 env0 σ4 := by
  intro v2 tk0 env0 σ4 F4 h0 h1 s9 sa sb t0 lo4 hM
  subst eJ0
  refine hK2 _ _ <| SW.seqR fun K3 hK3 => ld (v := (.agg [(I p_0.kind), (I p_0.n), (.str p_0.name), (LTerm v2 tk0)])) ti25 h1 sb rfl <| R.op rfl (a_store (cs' := [(I p_0.kind), (I p_0.n), (.str p_0.name), (LTerm v2 tk0)]) ti25 h0 rfl sa rfl (nb rfl) rfl rfl fun σ5 sc hF4 => ?_)
  have sd := hF4.keep sb (m1 (Ne.symm ne2))
  have t1 := t0.keep hF4 (not1 (tok_cells t0 sa))
  have F5 := F4.andThen hF4 lo2
  refine R.done (hK3 _ _ (SW.ret ?_))
  obtain rfl := si hM
  exact ret_of (rcc ti25 h0 sc rfl rn) (.agg [(I ((STerm.mk p_0.kind p_0.n p_0.name v2).kind)), (I ((STerm.mk p_0.kind p_0.n p_0.name v2).n)), (.str ((STerm.mk p_0.kind p_0.n p_0.name v2).name)), (LTerm ((STerm.mk p_0.kind p_0.n p_0.name v2).kids) tk0)]) _ (Le.refl _) (StLe.refl _) ⟨tk0, rfl, (t1.len (by first | rfl | simp)), lo4.nn, F5⟩
 clear eJ0
 refine SW.seqR fun K4 hK4 => sn rfl <| R.done (hK4 _ _ (SW.block (SW.loop (LW.ind (I := fun n3 env1 σ6 => ∃ (v0 : Int) (v1 : List STerm) (tk1 : Tk), Fr σ_0 σ6 [] ∧ env1.get 1 = some (.ptr a0 0) ∧ env1.get 2 = some (.ptr a1 0) ∧ env1.get 3 = some (.ptr a2 0) ∧ env1.get 4 = some (I v0) ∧ σ6 a0 = some (.cells (cTerm p_0)) ∧ σ6 a1 = some (.cells [(I 0), (I 0), (.str (⟨#[]⟩ : ByteArray)), (LTerm ([] : List STerm) .full)]) ∧ σ6 a2 = some (.cells [(I p_0.kind), (I p_0.n), (.str p_0.name), (LTerm v1 tk1)]) ∧ TokOk σ6 tk1 v1.length 4 ∧ Lo σ_0 [] (tkNames tk1) ∧ L_s_l1Copy_1 c_s_l1Copy p_0 J0 n3 v0 v1 = some r) ?_ f _ _ ⟨0, ([] : List STerm), .full, F3, rfl, rfl, rfl, rfl, s7, s8, s6, trivial, Lo.full, hM⟩))))
 rintro n3 env1 σ6 ⟨v0, v1, tk1, F6, h2, h3, h4, h5, se, sf, sg, t2, lo5, hM⟩
 cases n3 with
 | zero => (rw [L_s_l1Copy_1] at hM; cases hM)
 | succ n3 =>
  rw [L_s_l1Copy_1] at hM
  refine SW.seq <| SW.seqR fun K5 hK5 => mv h5 <| fp ti25 rfl h2 rfl (by decide) <| ld ti23 rfl se rfl <| R.op rfl (a_lenImm ti23 rfl rfl (n := (p_0.kids.length : Int)) (by simp) (it rfl rfl rfl (R.done (hK5 _ _ (SW.cond rfl (fun hb0 => ?_) (fun hb0 => ?_))))))
  · have hM := cT hb0 hM
    refine SW.skip <| SW.seq <| SW.block <| SW.draw' mixed [(0, false), (2, false), (4, false), (1, true), (3, false), (5, false), (6, false), (7, true), (8, false), (9, false), (10, false), (11, false)] [(a2, wLod ⟨1, 24, false, (some (.imm 0 [] .full)), (.slice 25)⟩ 3 (LTerm v1 tk1))] [] (by kernel_rfl) (by kernel_rfl) (fun t ht => by simp at ht) <| D.op rfl rfl (a_fieldPtr ti25 rfl h4 rfl (by decide) (D.op rfl rfl (a_fieldPtr ti25 rfl h2 rfl (by decide) (D.op rfl rfl (a_move h5 (D.rd rfl rfl (wat_lod sg rfl wat_nil) (lk_load ti23 rfl (wat_lod sg rfl wat_nil) (.head _)) rfl (a_loadPtr ti23 rfl sg rfl (D.op rfl rfl (a_loadPtr ti23 rfl se rfl ?_)))))))))
    obtain ⟨hg0, hM⟩ := gd hM
    obtain ⟨x0, hx0, hM⟩ := bd hM
    refine D.op rfl rfl (a_idxImm (f := eTerm) (xs := p_0.kids) (n := v0) (e := x0) (v := (.agg (cTerm x0))) ti23 rfl ti25 rfl rfl rfl (od hg0) hx0 (eTerm_eq x0) (D.op rfl rfl (a_loadIptr (v := (.agg (cTerm x0))) ti25 rfl rfl ?_)))
    obtain ⟨z0, hr0, hM⟩ := bd hM
    refine D.wk rfl rfl (wat_lod sg rfl wat_nil) rfl (a_call (g := 97) rfl (oc rfl on) (AC.go (ih_s_l1Copy x0 z0 hr0 _) (LeL.refl _) (StLe.refl _) fun v_ σ7 hp_ => ?_))
    obtain ⟨tk2, rfl, t3, nn0, hF5⟩ := hp_
    have lo6 := Lo.call F6 Lo.nil nn0
    have dj0 := Dj.call nn0 t2 (by simp)
    have sh := hF5.keep se (by simp)
    have sj := hF5.keep sf (by simp)
    have sk := hF5.keep sg (by simp)
    have t4 := t2.keep hF5 (by simp)
    have F7 := F6.andThen hF5 Lo.nil
    refine ⟨(wat_lod sk rfl wat_nil), (D.opLe rfl rfl rfl (a_buildSlice (v := (.imm 4 [(.agg [(I z0.kind), (I z0.n), (.str z0.name), (LTerm z0.kids tk2)])] .full)) (bsv_of (es := [(.agg [(I z0.kind), (I z0.n), (.str z0.name), (LTerm z0.kids tk2)])]) ti23 rfl ti25 (pc rfl pn) rfl ⟨rfl, by decide, by decide, rfl⟩) ⟨(LTerm ([z0]) .full), Le.elemsF (LeF.cons (Le.trans (Le.agg (LeL.cons (Le.refl _) (LeL.cons (Le.refl _) (LeL.cons (Le.refl _) (LeL.cons (Le.tok _ _ _) LeL.nil))))) (Le.of_eq (eTerm_eq z0).symm)) LeF.nil), ?_⟩))⟩
    obtain ⟨hg1, hM⟩ := gd hM
    refine D.op rfl rfl (a_append (es := List.map eTerm v1) (ds := List.map eTerm ([z0])) (rs := List.map eTerm (v1 ++ ([z0]))) ti23 rfl ti23 rfl ti25 rfl rfl (.inl rfl) rfl rfl (by decide) (by decide) (by simpa using od hg1) (.inl rfl) (t4.len (by first | rfl | simp)) (by simp) fun tk3 σ8 t5 hF6 nn1 => ?_)
    have lo7 := F7.loTk lo5 nn1
    have dj1 := Dj.next (Dj.symm dj0) t3 nn1
    have sl := hF6.keep sh (tok_cells t4 sh)
    have sm := hF6.keep sj (tok_cells t4 sj)
    have so := hF6.keep sk (tok_cells t4 sk)
    have t6 := t3.keep hF6 dj0
    have F8 := F7.andThen hF6 lo5
    refine D.op rfl rfl (a_fieldPtr ti25 rfl h4 rfl (by decide) (D.op rfl rfl (a_store (cs' := [(I p_0.kind), (I p_0.n), (.str p_0.name), (LTerm (v1 ++ ([z0])) tk3)]) ti23 rfl rfl so rfl (nb rfl) rfl rfl fun σ9 sp hF7 => ?_)))
    have sq := hF7.keep sl (m1 ne1)
    have sr := hF7.keep sm (m1 ne2)
    have t7 := t6.keep hF7 (not1 (tok_cells t6 so))
    have t8 := t5.keep hF7 (not1 (tok_cells t5 so))
    have F9 := F8.andThen hF7 lo3
    refine D.done <| SW.region <| mv h5 <| it rfl rfl rfl <| sn rfl <| R.done ?_
    exact ⟨n3, Nat.lt_succ_self _, (IntKind.wrap .i64 (v0 + 1)), (v1 ++ ([z0])), tk3, F9, h2, h3, h4, rfl, sq, sr, sp, (t8.len (by first | rfl | simp)), lo7, hM⟩
  · have hM := cF hb0 hM
    refine SW.exit <| Qte <| Qte <| Qbx ?_
    exact hJ0 v1 tk1 _ _ F6 h3 h4 se sf sg (t2.len (by first | rfl | simp)) lo5 hM

theorem rr_s_l1Copy (f : Nat) : Q_s_l1Copy (M_s_l1Copy f) := by
 induction f with
 | zero => exact by intro p_0 r hM; rw [M_s_l1Copy] at hM; cases hM
 | succ f ih => exact by intro p_0 r hM; rw [M_s_l1Copy] at hM; exact b_s_l1Copy f ih p_0 r hM

theorem r_s_l1Copy (f : Nat) : Q_s_l1Copy (M_s_l1Copy f) := (rr_s_l1Copy f)

def L_s_l4Copy_1 (f : Nat) (p_0 : SClause) (J0 : List STerm → Option SClause) : Nat → Int → List STerm → Option SClause
 | 0, _, _ => none
 | n + 1, v0, v1 =>
 bif decide (v0 < (p_0.body.length : Int)) then (
 bif decide (0 ≤ v0) then
 Option.bind (p_0.body[(v0 : Int).toNat]?) fun x0 =>
 Option.bind (M_s_l1Copy f x0) fun z0 =>
 bif decide (v1.length + ([z0]).length ≤ 4294967296) then
 L_s_l4Copy_1 f p_0 J0 n (IntKind.wrap .i64 (v0 + 1)) (v1 ++ ([z0]))
 else none
 else none
 ) else (
 J0 v1
 )

def M_s_l4Copy (f : Nat) (p_0 : SClause) : Option SClause :=
 Option.bind (M_s_l1Copy f p_0.head) fun z1 =>
 jn (fun (v2 : List STerm) => (
 some ((SClause.mk z1 v2))
 )) fun J0 => (
 L_s_l4Copy_1 f p_0 J0 f 0 ([] : List STerm)
 )

theorem r_s_l4Copy (f : Nat) (p_0 : SClause) (r : SClause) (hM : M_s_l4Copy f p_0 = some r) (σ_0 : St) : AC Tryz.prog 55 [(.agg (cClause p_0))] σ_0 (fun v s => ∃ (tkr_0 : Tk) (tkr_1 : Tk), v = (.agg [(I r.head.kind), (I r.head.n), (.str r.head.name), (LTerm r.head.kids tkr_0), (LTerm r.body tkr_1)]) ∧ TokOk s tkr_0 r.head.kids.length 4 ∧ (∀ i ∈ tkNames tkr_0, i ∈ [] ∨ σ_0 i = none) ∧ TokOk s tkr_1 r.body.length 4 ∧ (∀ i ∈ tkNames tkr_1, i ∈ [] ∨ σ_0 i = none) ∧ Dj tkr_0 tkr_1 ∧ Fr σ_0 s []) := by
 have F_0 := Fr.refl σ_0 []
 unfold M_s_l4Copy at hM
 refine AC.of_body Tryz.func55 rfl rfl (by rfl) (by simp [Tryz.f55]) <| SW.seqR fun K0 hK0 => R.op rfl (a_box (v := (.agg (cClause p_0))) rfl rfl fun a0 σ0 n0 s0 hF0 => ?_)
 have lo0 := F_0.lo1 n0
 have F0 := F_0.andThen hF0 Lo.nil
 refine alClause fun a1 σ1 n1 s1 hF1 => ?_
 have ne0 := ne_new n1 s0
 have lo2 := F0.lo1 n1
 have s2 := hF1.keep s0 (by simp)
 have F1 := F0.andThen hF1 Lo.nil
 refine R.done (hK0 _ _ (SW.seqR fun K1 hK1 => fp ti27 rfl rfl rfl (by decide) (ld (v := (.agg (cTerm p_0.head))) ti25 rfl s2 rfl ?_)))
 obtain ⟨z1, hr0, hM⟩ := bd hM
 refine cl rfl (oc rfl on) (AC.go (r_s_l1Copy f p_0.head z1 hr0 _) (LeL.refl _) (StLe.refl _) fun v_ σ2 hp_ => ?_)
 obtain ⟨tk0, rfl, t0, nn0, hF2⟩ := hp_
 have lo3 := Lo.call F1 Lo.nil nn0
 have s3 := hF2.keep s2 (by simp)
 have s4 := hF2.keep s1 (by simp)
 have F2 := F1.andThen hF2 Lo.nil
 refine R.opLe rfl (a_build (cs := [(I z1.kind), (I z1.n), (.str z1.name), (LTerm z1.kids tk0), (.imm 0 [] .full)]) ti27 rfl rfl (pc rfl pn) rfl ⟨(.agg [(I z1.kind), (I z1.n), (.str z1.name), (LTerm z1.kids tk0), (LTerm ([] : List STerm) .full)]), Le.agg (LeL.cons (Le.refl _) (LeL.cons (Le.refl _) (LeL.cons (Le.refl _) (LeL.cons (Le.refl _) (LeL.cons (Le.empty' _ _ _ rfl) LeL.nil))))), (alClause fun a2 σ3 n2 s5 hF3 => ?_)⟩)
 have ne1 := ne_new n2 s3
 have ne2 := ne_new n2 s4
 have lo4 := F2.lo1 n2
 have s6 := hF3.keep s3 (by simp)
 have s7 := hF3.keep s4 (by simp)
 have t1 := t0.keep hF3 (by simp)
 have F3 := F2.andThen hF3 Lo.nil
 refine R.op rfl (a_store (cs' := [(I z1.kind), (I z1.n), (.str z1.name), (LTerm z1.kids tk0), (LTerm ([] : List STerm) .full)]) ti27 rfl rfl s5 rfl (nb rfl) rfl rfl fun σ4 s8 hF4 => ?_)
 have s9 := hF4.keep s6 (m1 ne1)
 have sa := hF4.keep s7 (m1 ne2)
 have t2 := t1.keep hF4 (not1 (tok_cells t1 s5))
 have F4 := F3.andThen hF4 lo4
 refine R.done (hK1 _ _ (SW.seqK fun K2 hK2 => ?_))
 obtain ⟨J0, eJ0, hM⟩ := jn_elim hM
 have hJ0 : ∀ (v2 : List STerm) (tk1 : Tk) (env0 : Env) (σ5 : St), Fr σ_0 σ5 [] → env0.get 2 = some (.ptr a1 0) → env0.get 3 = some (.ptr a2 0) → σ5 a0 = some (.cells (cClause p_0)) → σ5 a1 = some (.cells [(I 0), (I 0), (.str (⟨#[]⟩ : ByteArray)), (LTerm ([] : List STerm) .full), (LTerm ([] : List STerm) .full)]) → σ5 a2 = some (.cells [(I z1.kind), (I z1.n), (.str z1.name), (LTerm z1.kids tk0), (LTerm v2 tk1)]) → TokOk σ5 tk0 z1.kids.length 4 → TokOk σ5 tk1 v2.length 4 → Lo σ_0 [] (tkNames tk1) → Dj tk0 tk1 → J0 v2 = some r → K2 env0 σ5 := by
  intro v2 tk1 env0 σ5 F5 h0 h1 sb sc sd t3 t4 lo5 dj0 hM
  subst eJ0
  refine hK2 _ _ <| SW.seqR fun K3 hK3 => ld (v := (.agg [(I z1.kind), (I z1.n), (.str z1.name), (LTerm z1.kids tk0), (LTerm v2 tk1)])) ti27 h1 sd rfl <| R.op rfl (a_store (cs' := [(I z1.kind), (I z1.n), (.str z1.name), (LTerm z1.kids tk0), (LTerm v2 tk1)]) ti27 h0 rfl sc rfl (nb rfl) rfl rfl fun σ6 se hF5 => ?_)
  have sf := hF5.keep sd (m1 (Ne.symm ne2))
  have t5 := t3.keep hF5 (not1 (tok_cells t3 sc))
  have t6 := t4.keep hF5 (not1 (tok_cells t4 sc))
  have F6 := F5.andThen hF5 lo2
  refine R.done (hK3 _ _ (SW.ret ?_))
  obtain rfl := si hM
  exact ret_of (rcc ti27 h0 se rfl rn) (.agg [(I ((SClause.mk z1 v2).head.kind)), (I ((SClause.mk z1 v2).head.n)), (.str ((SClause.mk z1 v2).head.name)), (LTerm ((SClause.mk z1 v2).head.kids) tk0), (LTerm ((SClause.mk z1 v2).body) tk1)]) _ (Le.refl _) (StLe.refl _) ⟨tk0, tk1, rfl, (t5.len (by first | rfl | simp)), lo3.nn, (t6.len (by first | rfl | simp)), lo5.nn, dj0, F6⟩
 clear eJ0
 refine SW.seqR fun K4 hK4 => sn rfl <| R.done (hK4 _ _ (SW.block (SW.loop (LW.ind (I := fun n3 env1 σ7 => ∃ (v0 : Int) (v1 : List STerm) (tk2 : Tk), Fr σ_0 σ7 [] ∧ env1.get 1 = some (.ptr a0 0) ∧ env1.get 2 = some (.ptr a1 0) ∧ env1.get 3 = some (.ptr a2 0) ∧ env1.get 4 = some (I v0) ∧ σ7 a0 = some (.cells (cClause p_0)) ∧ σ7 a1 = some (.cells [(I 0), (I 0), (.str (⟨#[]⟩ : ByteArray)), (LTerm ([] : List STerm) .full), (LTerm ([] : List STerm) .full)]) ∧ σ7 a2 = some (.cells [(I z1.kind), (I z1.n), (.str z1.name), (LTerm z1.kids tk0), (LTerm v1 tk2)]) ∧ TokOk σ7 tk0 z1.kids.length 4 ∧ TokOk σ7 tk2 v1.length 4 ∧ Lo σ_0 [] (tkNames tk2) ∧ Dj tk0 tk2 ∧ L_s_l4Copy_1 f p_0 J0 n3 v0 v1 = some r) ?_ f _ _ ⟨0, ([] : List STerm), .full, F4, rfl, rfl, rfl, rfl, s9, sa, s8, (t2.len (by first | rfl | simp)), trivial, Lo.full, (Dj.fullR _), hM⟩))))
 rintro n3 env1 σ7 ⟨v0, v1, tk2, F7, h2, h3, h4, h5, sg, sh, sj, t7, t8, lo6, dj1, hM⟩
 cases n3 with
 | zero => (rw [L_s_l4Copy_1] at hM; cases hM)
 | succ n3 =>
  rw [L_s_l4Copy_1] at hM
  refine SW.seq <| SW.seqR fun K5 hK5 => mv h5 <| fp ti27 rfl h2 rfl (by decide) <| ld ti23 rfl sg rfl <| R.op rfl (a_lenImm ti23 rfl rfl (n := (p_0.body.length : Int)) (by simp) (it rfl rfl rfl (R.done (hK5 _ _ (SW.cond rfl (fun hb0 => ?_) (fun hb0 => ?_))))))
  · have hM := cT hb0 hM
    refine SW.skip <| SW.seq <| SW.block <| SW.draw' mixed [(0, false), (2, false), (4, false), (1, true), (3, false), (5, false), (6, false), (7, true), (8, false), (9, false), (10, false), (11, false)] [(a2, wLod ⟨1, 24, false, (some (.imm 0 [] .full)), (.slice 25)⟩ 4 (LTerm v1 tk2))] [] (by kernel_rfl) (by kernel_rfl) (fun t ht => by simp at ht) <| D.op rfl rfl (a_fieldPtr ti27 rfl h4 rfl (by decide) (D.op rfl rfl (a_fieldPtr ti27 rfl h2 rfl (by decide) (D.op rfl rfl (a_move h5 (D.rd rfl rfl (wat_lod sj rfl wat_nil) (lk_load ti23 rfl (wat_lod sj rfl wat_nil) (.head _)) rfl (a_loadPtr ti23 rfl sj rfl (D.op rfl rfl (a_loadPtr ti23 rfl sg rfl ?_)))))))))
    obtain ⟨hg0, hM⟩ := gd hM
    obtain ⟨x0, hx0, hM⟩ := bd hM
    refine D.op rfl rfl (a_idxImm (f := eTerm) (xs := p_0.body) (n := v0) (e := x0) (v := (.agg (cTerm x0))) ti23 rfl ti25 rfl rfl rfl (od hg0) hx0 (eTerm_eq x0) (D.op rfl rfl (a_loadIptr (v := (.agg (cTerm x0))) ti25 rfl rfl ?_)))
    obtain ⟨z0, hr1, hM⟩ := bd hM
    refine D.wk rfl rfl (wat_lod sj rfl wat_nil) rfl (a_call (g := 97) rfl (oc rfl on) (AC.go (r_s_l1Copy f x0 z0 hr1 _) (LeL.refl _) (StLe.refl _) fun v_ σ8 hp_ => ?_))
    obtain ⟨tk3, rfl, t9, nn1, hF6⟩ := hp_
    have lo7 := Lo.call F7 Lo.nil nn1
    have dj2 := Dj.call nn1 t7 (by simp)
    have dj3 := Dj.call nn1 t8 (by simp)
    have sk := hF6.keep sg (by simp)
    have sl := hF6.keep sh (by simp)
    have sm := hF6.keep sj (by simp)
    have ta := t7.keep hF6 (by simp)
    have tb := t8.keep hF6 (by simp)
    have F8 := F7.andThen hF6 Lo.nil
    refine ⟨(wat_lod sm rfl wat_nil), (D.opLe rfl rfl rfl (a_buildSlice (v := (.imm 4 [(.agg [(I z0.kind), (I z0.n), (.str z0.name), (LTerm z0.kids tk3)])] .full)) (bsv_of (es := [(.agg [(I z0.kind), (I z0.n), (.str z0.name), (LTerm z0.kids tk3)])]) ti23 rfl ti25 (pc rfl pn) rfl ⟨rfl, by decide, by decide, rfl⟩) ⟨(LTerm ([z0]) .full), Le.elemsF (LeF.cons (Le.trans (Le.agg (LeL.cons (Le.refl _) (LeL.cons (Le.refl _) (LeL.cons (Le.refl _) (LeL.cons (Le.tok _ _ _) LeL.nil))))) (Le.of_eq (eTerm_eq z0).symm)) LeF.nil), ?_⟩))⟩
    obtain ⟨hg1, hM⟩ := gd hM
    refine D.op rfl rfl (a_append (es := List.map eTerm v1) (ds := List.map eTerm ([z0])) (rs := List.map eTerm (v1 ++ ([z0]))) ti23 rfl ti23 rfl ti25 rfl rfl (.inl rfl) rfl rfl (by decide) (by decide) (by simpa using od hg1) (.inl rfl) (tb.len (by first | rfl | simp)) (by simp) fun tk4 σ9 tc hF7 nn2 => ?_)
    have lo8 := F8.loTk lo6 nn2
    have dj4 := Dj.next (Dj.symm dj1) ta nn2
    have dj5 := Dj.next (Dj.symm dj3) t9 nn2
    have so := hF7.keep sk (tok_cells tb sk)
    have sp := hF7.keep sl (tok_cells tb sl)
    have sq := hF7.keep sm (tok_cells tb sm)
    have td := ta.keep hF7 dj1
    have te := t9.keep hF7 dj3
    have F9 := F8.andThen hF7 lo6
    refine D.op rfl rfl (a_fieldPtr ti27 rfl h4 rfl (by decide) (D.op rfl rfl (a_store (cs' := [(I z1.kind), (I z1.n), (.str z1.name), (LTerm z1.kids tk0), (LTerm (v1 ++ ([z0])) tk4)]) ti23 rfl rfl sq rfl (nb rfl) rfl rfl fun σa sr hF8 => ?_)))
    have ss := hF8.keep so (m1 ne1)
    have st := hF8.keep sp (m1 ne2)
    have tf := td.keep hF8 (not1 (tok_cells td sq))
    have tg := te.keep hF8 (not1 (tok_cells te sq))
    have th := tc.keep hF8 (not1 (tok_cells tc sq))
    have Fa := F9.andThen hF8 lo4
    refine D.done <| SW.region <| mv h5 <| it rfl rfl rfl <| sn rfl <| R.done ?_
    exact ⟨n3, Nat.lt_succ_self _, (IntKind.wrap .i64 (v0 + 1)), (v1 ++ ([z0])), tk4, Fa, h2, h3, h4, rfl, ss, st, sr, (tf.len (by first | rfl | simp)), (th.len (by first | rfl | simp)), lo8, (Dj.symm dj4), hM⟩
  · have hM := cF hb0 hM
    refine SW.exit <| Qte <| Qte <| Qbx ?_
    exact hJ0 v1 tk2 _ _ F7 h3 h4 sg sh sj (t7.len (by first | rfl | simp)) (t8.len (by first | rfl | simp)) lo6 dj1 hM

def M_s_l2Level (f : Nat) (p_0 : ByteArray) : Option Int :=
 jn (fun (v0 : Bool) => (
 bif v0 then (
 some (3)
 ) else (
 jn (fun (v1 : Bool) => (
 bif v1 then (
 some (2)
 ) else (
 jn (fun (v2 : Bool) => (
 bif v2 then (
 some (1)
 ) else (
 some (0)
 )
 )) fun J0 => (
 bif decide (p_0 = (⟨#[42]⟩ : ByteArray)) then (
 J0 (decide (p_0 = (⟨#[42]⟩ : ByteArray)))
 ) else (
 bif decide (p_0 = (⟨#[47, 47]⟩ : ByteArray)) then (
 J0 (decide (p_0 = (⟨#[47, 47]⟩ : ByteArray)))
 ) else (
 J0 (decide (p_0 = (⟨#[109, 111, 100]⟩ : ByteArray)))
 )
 )
 )
 )
 )) fun J1 => (
 bif decide (p_0 = (⟨#[43]⟩ : ByteArray)) then (
 J1 (decide (p_0 = (⟨#[43]⟩ : ByteArray)))
 ) else (
 J1 (decide (p_0 = (⟨#[45]⟩ : ByteArray)))
 )
 )
 )
 )) fun J2 => (
 bif decide (p_0 = (⟨#[61]⟩ : ByteArray)) then (
 J2 (decide (p_0 = (⟨#[61]⟩ : ByteArray)))
 ) else (
 bif decide (p_0 = (⟨#[92, 61]⟩ : ByteArray)) then (
 J2 (decide (p_0 = (⟨#[92, 61]⟩ : ByteArray)))
 ) else (
 bif decide (p_0 = (⟨#[61, 61]⟩ : ByteArray)) then (
 J2 (decide (p_0 = (⟨#[61, 61]⟩ : ByteArray)))
 ) else (
 bif decide (p_0 = (⟨#[60]⟩ : ByteArray)) then (
 J2 (decide (p_0 = (⟨#[60]⟩ : ByteArray)))
 ) else (
 bif decide (p_0 = (⟨#[62]⟩ : ByteArray)) then (
 J2 (decide (p_0 = (⟨#[62]⟩ : ByteArray)))
 ) else (
 bif decide (p_0 = (⟨#[61, 60]⟩ : ByteArray)) then (
 J2 (decide (p_0 = (⟨#[61, 60]⟩ : ByteArray)))
 ) else (
 bif decide (p_0 = (⟨#[62, 61]⟩ : ByteArray)) then (
 J2 (decide (p_0 = (⟨#[62, 61]⟩ : ByteArray)))
 ) else (
 bif decide (p_0 = (⟨#[61, 58, 61]⟩ : ByteArray)) then (
 J2 (decide (p_0 = (⟨#[61, 58, 61]⟩ : ByteArray)))
 ) else (
 J2 (decide (p_0 = (⟨#[105, 115]⟩ : ByteArray)))
 )
 )
 )
 )
 )
 )
 )
 )
 )

theorem r_s_l2Level (f : Nat) (p_0 : ByteArray) (r : Int) (hM : M_s_l2Level f p_0 = some r) (σ_0 : St) : AC Tryz.prog 116 [(.str p_0)] σ_0 (fun v s => v = (I r) ∧ s = σ_0) := by
 have F_0 := Fr.refl σ_0 []
 unfold M_s_l2Level at hM
 refine AC.of_body Tryz.func116 rfl rfl (by rfl) (by simp [Tryz.f116]) <| SW.seqR fun K0 hK0 => sn rfl <| R.done (hK0 _ _ (SW.seq (SW.seqR fun K1 hK1 => mv rfl (R.done (hK1 _ _ (SW.block (SW.seqK fun K2 hK2 => ?_)))))))
 obtain ⟨J2, eJ0, hM⟩ := jn_elim hM
 have hJ0 : ∀ (v0 : Bool) (env0 : Env) (σ0 : St), Fr σ_0 σ0 [] → env0.get 3 = some (.str p_0) → env0.get 4 = some (.bool v0) → J2 v0 = some r → K2 env0 σ0 := by
  intro v0 env0 σ0 F0 h0 h1 hM
  subst eJ0
  refine hK2 _ _ <| SW.cond h1 (fun hb0 => ?_) (fun hb0 => ?_)
  · have hM := cT hb0 hM
    refine SW.seqR fun K3 hK3 => sn rfl <| R.done (hK3 _ _ (SW.ret (Qb (Qt ?_))))
    obtain rfl := si hM
    exact ret_of (rc rfl rn) (I 3) σ_0 (Le.refl _) F0.back ⟨rfl, rfl⟩
  · have hM := cF hb0 hM
    refine SW.seqK fun K4 hK4 => ?_
    obtain ⟨J1, eJ1, hM⟩ := jn_elim hM
    have hJ1 : ∀ (v1 : Bool) (env1 : Env) (σ1 : St), Fr σ_0 σ1 [] → env1.get 3 = some (.str p_0) → env1.get 14 = some (.bool v1) → J1 v1 = some r → K4 env1 σ1 := by
     intro v1 env1 σ1 F1 h2 h3 hM
     subst eJ1
     refine hK4 _ _ <| SW.cond h3 (fun hb1 => ?_) (fun hb1 => ?_)
     · have hM := cT hb1 hM
       refine SW.seqR fun K5 hK5 => sn rfl <| R.done (hK5 _ _ (SW.ret (Qb (Qt ?_))))
       obtain rfl := si hM
       exact ret_of (rc rfl rn) (I 2) σ_0 (Le.refl _) F1.back ⟨rfl, rfl⟩
     · have hM := cF hb1 hM
       refine SW.seqK fun K6 hK6 => ?_
       obtain ⟨J0, eJ2, hM⟩ := jn_elim hM
       have hJ2 : ∀ (v2 : Bool) (env2 : Env) (σ2 : St), Fr σ_0 σ2 [] → env2.get 17 = some (.bool v2) → J0 v2 = some r → K6 env2 σ2 := by
        intro v2 env2 σ2 F2 h4 hM
        subst eJ2
        refine hK6 _ _ <| SW.cond h4 (fun hb2 => ?_) (fun hb2 => ?_)
        · have hM := cT hb2 hM
          refine SW.seqR fun K7 hK7 => sn rfl <| R.done (hK7 _ _ (SW.ret (Qb (Qt ?_))))
          obtain rfl := si hM
          exact ret_of (rc rfl rn) (I 1) σ_0 (Le.refl _) F2.back ⟨rfl, rfl⟩
        · have hM := cF hb2 hM
          refine SW.skip <| SW.seqR fun K8 hK8 => sn rfl <| R.done (hK8 _ _ (SW.ret ?_))
          obtain rfl := si hM
          exact ret_of (rc rfl rn) (I 0) σ_0 (Le.refl _) F2.back ⟨rfl, rfl⟩
       clear eJ2
       refine SW.seqR fun K9 hK9 => sr h2 rfl rfl <| sn rfl <| R.done (hK9 _ _ (SW.cond rfl (fun hb3 => ?_) (fun hb3 => ?_)))
       · have hM := cT hb3 hM
         refine SW.skip ?_
         exact hJ2 (decide (p_0 = (⟨#[42]⟩ : ByteArray))) _ _ F1 rfl hM
       · have hM := cF hb3 hM
         refine SW.seqR fun Ka hKa => sr h2 rfl rfl <| sn rfl <| R.done (hKa _ _ (SW.cond rfl (fun hb4 => ?_) (fun hb4 => ?_)))
         · have hM := cT hb4 hM
           refine SW.skip ?_
           exact hJ2 (decide (p_0 = (⟨#[47, 47]⟩ : ByteArray))) _ _ F1 rfl hM
         · have hM := cF hb4 hM
           refine SW.region <| sr h2 rfl rfl <| sn rfl <| R.done ?_
           exact hJ2 (decide (p_0 = (⟨#[109, 111, 100]⟩ : ByteArray))) _ _ F1 rfl hM
    clear eJ1
    refine SW.seqR fun Kb hKb => sr h0 rfl rfl <| sn rfl <| R.done (hKb _ _ (SW.cond rfl (fun hb5 => ?_) (fun hb5 => ?_)))
    · have hM := cT hb5 hM
      refine SW.skip ?_
      exact hJ1 (decide (p_0 = (⟨#[43]⟩ : ByteArray))) _ _ F0 h0 rfl hM
    · have hM := cF hb5 hM
      refine SW.region <| sr h0 rfl rfl <| sn rfl <| R.done ?_
      exact hJ1 (decide (p_0 = (⟨#[45]⟩ : ByteArray))) _ _ F0 h0 rfl hM
 clear eJ0
 refine SW.seqR fun Kc hKc => sr rfl rfl rfl <| sn rfl <| R.done (hKc _ _ (SW.cond rfl (fun hb6 => ?_) (fun hb6 => ?_)))
 · have hM := cT hb6 hM
   refine SW.skip ?_
   exact hJ0 (decide (p_0 = (⟨#[61]⟩ : ByteArray))) _ _ F_0 rfl rfl hM
 · have hM := cF hb6 hM
   refine SW.seqR fun Kd hKd => sr rfl rfl rfl <| sn rfl <| R.done (hKd _ _ (SW.cond rfl (fun hb7 => ?_) (fun hb7 => ?_)))
   · have hM := cT hb7 hM
     refine SW.skip ?_
     exact hJ0 (decide (p_0 = (⟨#[92, 61]⟩ : ByteArray))) _ _ F_0 rfl rfl hM
   · have hM := cF hb7 hM
     refine SW.seqR fun Ke hKe => sr rfl rfl rfl <| sn rfl <| R.done (hKe _ _ (SW.cond rfl (fun hb8 => ?_) (fun hb8 => ?_)))
     · have hM := cT hb8 hM
       refine SW.skip ?_
       exact hJ0 (decide (p_0 = (⟨#[61, 61]⟩ : ByteArray))) _ _ F_0 rfl rfl hM
     · have hM := cF hb8 hM
       refine SW.seqR fun Kf hKf => sr rfl rfl rfl <| sn rfl <| R.done (hKf _ _ (SW.cond rfl (fun hb9 => ?_) (fun hb9 => ?_)))
       · have hM := cT hb9 hM
         refine SW.skip ?_
         exact hJ0 (decide (p_0 = (⟨#[60]⟩ : ByteArray))) _ _ F_0 rfl rfl hM
       · have hM := cF hb9 hM
         refine SW.seqR fun Kg hKg => sr rfl rfl rfl <| sn rfl <| R.done (hKg _ _ (SW.cond rfl (fun hba => ?_) (fun hba => ?_)))
         · have hM := cT hba hM
           refine SW.skip ?_
           exact hJ0 (decide (p_0 = (⟨#[62]⟩ : ByteArray))) _ _ F_0 rfl rfl hM
         · have hM := cF hba hM
           refine SW.seqR fun Kh hKh => sr rfl rfl rfl <| sn rfl <| R.done (hKh _ _ (SW.cond rfl (fun hbb => ?_) (fun hbb => ?_)))
           · have hM := cT hbb hM
             refine SW.skip ?_
             exact hJ0 (decide (p_0 = (⟨#[61, 60]⟩ : ByteArray))) _ _ F_0 rfl rfl hM
           · have hM := cF hbb hM
             refine SW.seqR fun Ki hKi => sr rfl rfl rfl <| sn rfl <| R.done (hKi _ _ (SW.cond rfl (fun hbc => ?_) (fun hbc => ?_)))
             · have hM := cT hbc hM
               refine SW.skip ?_
               exact hJ0 (decide (p_0 = (⟨#[62, 61]⟩ : ByteArray))) _ _ F_0 rfl rfl hM
             · have hM := cF hbc hM
               refine SW.seqR fun Kj hKj => sr rfl rfl rfl <| sn rfl <| R.done (hKj _ _ (SW.cond rfl (fun hbd => ?_) (fun hbd => ?_)))
               · have hM := cT hbd hM
                 refine SW.skip ?_
                 exact hJ0 (decide (p_0 = (⟨#[61, 58, 61]⟩ : ByteArray))) _ _ F_0 rfl rfl hM
               · have hM := cF hbd hM
                 refine SW.region <| sr rfl rfl rfl <| sn rfl <| R.done ?_
                 exact hJ0 (decide (p_0 = (⟨#[105, 115]⟩ : ByteArray))) _ _ F_0 rfl rfl hM

def M_s_l1Var (f : Nat) (p_0 : Int) : Option STerm :=
 some ((STerm.mk 1 p_0 (⟨#[]⟩ : ByteArray) ([] : List STerm)))

theorem r_s_l1Var (f : Nat) (p_0 : Int) (r : STerm) (hM : M_s_l1Var f p_0 = some r) (σ_0 : St) : AC Tryz.prog 89 [(I p_0)] σ_0 (fun v s => v = (.agg [(I r.kind), (I r.n), (.str r.name), (LTerm r.kids .full)]) ∧ s = σ_0) := by
 have F_0 := Fr.refl σ_0 []
 unfold M_s_l1Var at hM
 refine AC.of_body Tryz.func89 rfl rfl (by rfl) (by simp [Tryz.f89]) <| SW.seqR fun K0 hK0 => alTerm fun a0 σ0 n0 s0 hF0 => ?_
 have lo0 := F_0.lo1 n0
 have F0 := F_0.andThen hF0 Lo.nil
 refine R.done (hK0 _ _ (SW.seqR fun K1 hK1 => mv rfl (R.opLe rfl (a_build (cs := [(I 1), (I p_0), (.str (⟨#[]⟩ : ByteArray)), (.imm 0 [] .full)]) ti25 rfl rfl (pc rfl (pc rfl pn)) rfl ⟨(.agg [(I 1), (I p_0), (.str (⟨#[]⟩ : ByteArray)), (LTerm ([] : List STerm) .full)]), Le.agg (LeL.cons (Le.refl _) (LeL.cons (Le.refl _) (LeL.cons (Le.refl _) (LeL.cons (Le.empty' _ _ _ rfl) LeL.nil)))), (R.op rfl (a_store (cs' := [(I 1), (I p_0), (.str (⟨#[]⟩ : ByteArray)), (LTerm ([] : List STerm) .full)]) ti25 rfl rfl s0 rfl (nb rfl) rfl rfl fun σ1 s1 hF1 => ?_))⟩))))
 have F1 := F0.andThen hF1 lo0
 refine R.done (hK1 _ _ (SW.ret ?_))
 obtain rfl := si hM
 exact ret_of (rcc ti25 rfl s1 rfl rn) (.agg [(I ((STerm.mk 1 p_0 (⟨#[]⟩ : ByteArray) ([] : List STerm)).kind)), (I ((STerm.mk 1 p_0 (⟨#[]⟩ : ByteArray) ([] : List STerm)).n)), (.str ((STerm.mk 1 p_0 (⟨#[]⟩ : ByteArray) ([] : List STerm)).name)), (LTerm ((STerm.mk 1 p_0 (⟨#[]⟩ : ByteArray) ([] : List STerm)).kids) .full)]) σ_0 (Le.refl _) F1.back ⟨rfl, rfl⟩

def M_s_l1Sign (f : Nat) (p_0 : ByteArray) (p_1 : Int) (p_2 : Int) : Option Bool :=
 jn (fun (v0 : Bool) => (
 some (v0)
 )) fun J0 => (
 bif decide (0 ≤ p_1) then (
 bif decide (p_1 < (p_0.size : Int)) then (
 Option.bind (p_0.data[(p_1 : Int).toNat]?) fun x0 =>
 J0 ((x0.toNat : Int) == p_2)
 ) else (
 J0 false
 )
 ) else (
 J0 false
 )
 )

theorem r_s_l1Sign (f : Nat) (p_0 : ByteArray) (p_1 : Int) (p_2 : Int) (r : Bool) (hM : M_s_l1Sign f p_0 p_1 p_2 = some r) (σ_0 : St) : AC Tryz.prog 155 [(.str p_0), (I p_1), (U p_2)] σ_0 (fun v s => v = (.bool r) ∧ s = σ_0) := by
 have F_0 := Fr.refl σ_0 []
 unfold M_s_l1Sign at hM
 refine AC.of_body Tryz.func155 rfl rfl (by rfl) (by simp [Tryz.f155]) <| SW.seqR fun K0 hK0 => sn rfl <| R.done (hK0 _ _ (SW.seqK fun K1 hK1 => ?_))
 obtain ⟨J0, eJ0, hM⟩ := jn_elim hM
 have hJ0 : ∀ (v0 : Bool) (env0 : Env) (σ0 : St), Fr σ_0 σ0 [] → env0.get 6 = some (.bool v0) → J0 v0 = some r → K1 env0 σ0 := by
  intro v0 env0 σ0 F0 h0 hM
  subst eJ0
  refine hK1 _ _ <| SW.ret ?_
  obtain rfl := si hM
  exact ret_of (rc h0 rn) (.bool v0) σ_0 (Le.refl _) F0.back ⟨rfl, rfl⟩
 clear eJ0
 refine SW.region <| mv rfl <| it rfl rfl rfl <| mv rfl ?_
 rcases bcase (decide (0 ≤ p_1)) with hb0 | hb0
 · have hM := cT hb0 hM
   refine R.go (decide (0 ≤ p_1)) rfl hb0 (a_move rfl (R.go (decide (0 ≤ p_1)) rfl hb0 (a_move rfl (R.go (decide (0 ≤ p_1)) rfl hb0 (a_lenStr ti9 rfl rfl (R.go (decide (0 ≤ p_1)) rfl hb0 (a_int rfl rfl rfl (R.op rfl (a_pickT rfl hb0 rfl (mv rfl ?_))))))))))
   rcases bcase (decide (p_1 < (p_0.size : Int))) with hb1 | hb1
   · have hM := cT hb1 hM
     refine R.go (decide (p_1 < (p_0.size : Int))) rfl hb1 (a_move rfl (R.go (decide (p_1 < (p_0.size : Int))) rfl hb1 (a_move rfl ?_)))
     obtain ⟨x0, hx0, hM⟩ := bd hM
     refine R.go (decide (p_1 < (p_0.size : Int))) rfl hb1 (a_idxStr (n := p_1) (b := x0) ti9 rfl rfl rfl (od hb0) hx0 (R.go (decide (p_1 < (p_0.size : Int))) rfl hb1 (a_move rfl (R.go (decide (p_1 < (p_0.size : Int))) rfl hb1 (a_int rfl rfl rfl (R.op rfl (a_pickT rfl hb1 rfl (sn rfl (R.done ?_)))))))))
     exact hJ0 ((x0.toNat : Int) == p_2) _ _ F_0 rfl hM
   · have hM := cF hb1 hM
     refine R.not (decide (p_1 < (p_0.size : Int))) rfl hb1 <| R.not (decide (p_1 < (p_0.size : Int))) rfl hb1 <| R.not (decide (p_1 < (p_0.size : Int))) rfl hb1 <| R.not (decide (p_1 < (p_0.size : Int))) rfl hb1 <| R.not (decide (p_1 < (p_0.size : Int))) rfl hb1 <| R.op rfl (a_pickF rfl hb1 rfl (sn rfl (R.done ?_)))
     exact hJ0 false _ _ F_0 rfl hM
 · have hM := cF hb0 hM
   refine R.not (decide (0 ≤ p_1)) rfl hb0 <| R.not (decide (0 ≤ p_1)) rfl hb0 <| R.not (decide (0 ≤ p_1)) rfl hb0 <| R.not (decide (0 ≤ p_1)) rfl hb0 <| R.op rfl (a_pickF rfl hb0 rfl (mv rfl (R.not false rfl rfl (R.not false rfl rfl (R.not false rfl rfl (R.not false rfl rfl (R.not false rfl rfl (R.op rfl (a_pickF rfl rfl rfl (sn rfl (R.done ?_)))))))))))
   exact hJ0 false _ _ F_0 rfl hM

def M_s_l2Fails (f : Nat) (p_0 : Int) : Option (STerm × Int) :=
 some ((STerm.mk 0 0 (⟨#[]⟩ : ByteArray) ([] : List STerm)), (IntKind.wrap .i64 ((-1) - p_0)))

theorem r_s_l2Fails (f : Nat) (p_0 : Int) (r : STerm × Int) (hM : M_s_l2Fails f p_0 = some r) (σ_0 : St) : AC Tryz.prog 167 [(I p_0)] σ_0 (fun v s => v = (.tup [(.agg [(I r.1.kind), (I r.1.n), (.str r.1.name), (LTerm r.1.kids .full)]), (I r.2)]) ∧ s = σ_0) := by
 have F_0 := Fr.refl σ_0 []
 unfold M_s_l2Fails at hM
 refine AC.of_body Tryz.func167 rfl rfl (by rfl) (by simp [Tryz.f167]) <| SW.seqR fun K0 hK0 => alTerm fun a0 σ0 n0 s0 hF0 => ?_
 have lo0 := F_0.lo1 n0
 have F0 := F_0.andThen hF0 Lo.nil
 refine sn rfl <| R.done (hK0 _ _ (SW.seqR fun K1 hK1 => R.opLe rfl (a_build (cs := [(I 0), (I 0), (.str (⟨#[]⟩ : ByteArray)), (.imm 0 [] .full)]) ti25 rfl rfl pn rfl ⟨(.agg [(I 0), (I 0), (.str (⟨#[]⟩ : ByteArray)), (LTerm ([] : List STerm) .full)]), Le.agg (LeL.cons (Le.refl _) (LeL.cons (Le.refl _) (LeL.cons (Le.refl _) (LeL.cons (Le.empty' _ _ _ rfl) LeL.nil)))), (mv rfl (it rfl rfl rfl (R.op rfl (a_store (cs' := [(I 0), (I 0), (.str (⟨#[]⟩ : ByteArray)), (LTerm ([] : List STerm) .full)]) ti25 rfl rfl s0 rfl (nb rfl) rfl rfl fun σ1 s1 hF1 => ?_))))⟩)))
 have F1 := F0.andThen hF1 lo0
 refine sn rfl <| R.done (hK1 _ _ (SW.ret ?_))
 obtain rfl := si hM
 exact ret_of (rcc ti25 rfl s1 rfl (rc rfl rn)) (.tup [(.agg [(I ((STerm.mk 0 0 (⟨#[]⟩ : ByteArray) ([] : List STerm)).kind)), (I ((STerm.mk 0 0 (⟨#[]⟩ : ByteArray) ([] : List STerm)).n)), (.str ((STerm.mk 0 0 (⟨#[]⟩ : ByteArray) ([] : List STerm)).name)), (LTerm ((STerm.mk 0 0 (⟨#[]⟩ : ByteArray) ([] : List STerm)).kids) .full)]), (I (IntKind.wrap .i64 ((-1) - p_0)))]) σ_0 (Le.refl _) F1.back ⟨rfl, rfl⟩

def L_s_l1Chain_1 (f : Nat) (p_0 : (List STerm)) (J0 : Int → Int → ByteArray → List STerm → Option STerm) : Nat → Int → Int → Int → ByteArray → List STerm → Option STerm
 | 0, _, _, _, _, _ => none
 | n + 1, v0, v1, v2, v3, v4 =>
 bif decide (0 ≤ v0) then (
 Option.bind (p_0[(v0 : Int).toNat]?) fun x0 =>
 Option.bind (M_s_l1Struct f (⟨#[46]⟩ : ByteArray) ([x0, (STerm.mk v1 v2 v3 v4)])) fun z0 =>
 L_s_l1Chain_1 f p_0 J0 n (IntKind.wrap .i64 (v0 - 1)) z0.kind z0.n z0.name z0.kids
 ) else (
 J0 v1 v2 v3 v4
 )

def M_s_l1Chain (f : Nat) (p_0 : (List STerm)) (p_1 : STerm) : Option STerm :=
 jn (fun (v5 : Int) (v6 : Int) (v7 : ByteArray) (v8 : List STerm) => (
 some ((STerm.mk v5 v6 v7 v8))
 )) fun J0 => (
 L_s_l1Chain_1 f p_0 J0 f (IntKind.wrap .i64 ((p_0.length : Int) - 1)) p_1.kind p_1.n p_1.name p_1.kids
 )

theorem r_s_l1Chain (f : Nat) (p_0 : (List STerm)) (tk_0 : Tk) (p_1 : STerm) (r : STerm) (hM : M_s_l1Chain f p_0 p_1 = some r) (σ_0 : St) : AC Tryz.prog 174 [(LTerm p_0 tk_0), (.agg (cTerm p_1))] σ_0 (fun v s => v = (.agg (cTerm r)) ∧ s = σ_0) := by
 have F_0 := Fr.refl σ_0 []
 unfold M_s_l1Chain at hM
 refine AC.of_body Tryz.func174 rfl rfl (by rfl) (by simp [Tryz.f174]) <| SW.seqR fun K0 hK0 => R.op rfl (a_box (v := (.agg (cTerm p_1))) rfl rfl fun a0 σ0 n0 s0 hF0 => ?_)
 have lo0 := F_0.lo1 n0
 have F0 := F_0.andThen hF0 Lo.nil
 refine alTerm fun a1 σ1 n1 s1 hF1 => ?_
 have ne0 := ne_new n1 s0
 have lo2 := F0.lo1 n1
 have s2 := hF1.keep s0 (by simp)
 have F1 := F0.andThen hF1 Lo.nil
 refine R.done (hK0 _ _ (SW.seqR fun K1 hK1 => ld (v := (.agg (cTerm p_1))) ti25 rfl s2 rfl (alTerm fun a2 σ2 n2 s3 hF2 => ?_)))
 have ne1 := ne_new n2 s2
 have ne2 := ne_new n2 s1
 have lo3 := F1.lo1 n2
 have s4 := hF2.keep s2 (by simp)
 have s5 := hF2.keep s1 (by simp)
 have F2 := F1.andThen hF2 Lo.nil
 refine R.op rfl (a_store (cs' := (cTerm p_1)) ti25 rfl rfl s3 rfl (nb rfl) rfl rfl fun σ3 s6 hF3 => ?_)
 have s7 := hF3.keep s4 (m1 ne1)
 have s8 := hF3.keep s5 (m1 ne2)
 have F3 := F2.andThen hF3 lo3
 refine R.done (hK1 _ _ (SW.seqK fun K2 hK2 => ?_))
 obtain ⟨J0, eJ0, hM⟩ := jn_elim hM
 have hJ0 : ∀ (v5 : Int) (v6 : Int) (v7 : ByteArray) (v8 : List STerm) (tk0 : Tk) (env0 : Env) (σ4 : St), Fr σ_0 σ4 [] → env0.get 4 = some (.ptr a1 0) → env0.get 5 = some (.ptr a2 0) → σ4 a1 = some (.cells [(I 0), (I 0), (.str (⟨#[]⟩ : ByteArray)), (LTerm ([] : List STerm) .full)]) → σ4 a2 = some (.cells [(I v5), (I v6), (.str v7), (LTerm v8 tk0)]) → J0 v5 v6 v7 v8 = some r → K2 env0 σ4 := by
  intro v5 v6 v7 v8 tk0 env0 σ4 F4 h0 h1 s9 sa hM
  subst eJ0
  refine hK2 _ _ <| SW.seqR fun K3 hK3 => ld (v := (.agg [(I v5), (I v6), (.str v7), (LTerm v8 tk0)])) ti25 h1 sa rfl <| R.op rfl (a_store (cs' := [(I v5), (I v6), (.str v7), (LTerm v8 tk0)]) ti25 h0 rfl s9 rfl (nb rfl) rfl rfl fun σ5 sb hF4 => ?_)
  have sc := hF4.keep sa (m1 (Ne.symm ne2))
  have F5 := F4.andThen hF4 lo2
  refine R.done (hK3 _ _ (SW.ret ?_))
  obtain rfl := si hM
  exact ret_of (rcc ti25 h0 sb rfl rn) (.agg (cTerm (STerm.mk v5 v6 v7 v8))) σ_0 (Le.agg (LeL.cons (Le.refl _) (LeL.cons (Le.refl _) (LeL.cons (Le.refl _) (LeL.cons (Le.tok _ _ _) LeL.nil))))) F5.back ⟨rfl, rfl⟩
 clear eJ0
 refine SW.seqR fun K4 hK4 => mv rfl <| R.op rfl (a_lenImm ti23 rfl rfl (n := (p_0.length : Int)) (by simp) (it rfl rfl rfl (sn rfl (R.done (hK4 _ _ (SW.block (SW.loop (LW.ind (I := fun n3 env1 σ6 => ∃ (v0 : Int) (v1 : Int) (v2 : Int) (v3 : ByteArray) (v4 : List STerm) (tk1 : Tk), Fr σ_0 σ6 [] ∧ env1.get 0 = some (LTerm p_0 tk_0) ∧ env1.get 4 = some (.ptr a1 0) ∧ env1.get 5 = some (.ptr a2 0) ∧ env1.get 6 = some (I v0) ∧ σ6 a1 = some (.cells [(I 0), (I 0), (.str (⟨#[]⟩ : ByteArray)), (LTerm ([] : List STerm) .full)]) ∧ σ6 a2 = some (.cells [(I v1), (I v2), (.str v3), (LTerm v4 tk1)]) ∧ L_s_l1Chain_1 f p_0 J0 n3 v0 v1 v2 v3 v4 = some r) ?_ f _ _ ⟨(IntKind.wrap .i64 ((p_0.length : Int) - 1)), p_1.kind, p_1.n, p_1.name, p_1.kids, .no, F3, rfl, rfl, rfl, rfl, s8, s6, hM⟩))))))))
 rintro n3 env1 σ6 ⟨v0, v1, v2, v3, v4, tk1, F6, h2, h3, h4, h5, sd, se, hM⟩
 cases n3 with
 | zero => (rw [L_s_l1Chain_1] at hM; cases hM)
 | succ n3 =>
  rw [L_s_l1Chain_1] at hM
  refine SW.seq <| SW.seqR fun K5 hK5 => mv h5 <| it rfl rfl rfl <| R.done (hK5 _ _ (SW.cond rfl (fun hb0 => ?_) (fun hb0 => ?_)))
  · have hM := cT hb0 hM
    refine SW.skip <| SW.seq <| SW.block <| SW.draw' mixed [(0, false), (1, false), (2, false), (3, false), (4, false), (5, false), (6, false), (7, false)] [] [] (by kernel_rfl) (by kernel_rfl) (fun t ht => by simp at ht) <| D.op rfl rfl (a_move h2 (D.op rfl rfl (a_move h5 ?_)))
    obtain ⟨x0, hx0, hM⟩ := bd hM
    refine D.op rfl rfl (a_idxImm (f := eTerm) (xs := p_0) (n := v0) (e := x0) (v := (.agg (cTerm x0))) ti23 rfl ti25 rfl rfl rfl (od hb0) hx0 (eTerm_eq x0) (D.op rfl rfl (a_loadIptr (v := (.agg (cTerm x0))) ti25 rfl rfl (D.op rfl rfl (a_loadPtr (v := (.agg [(I v1), (I v2), (.str v3), (LTerm v4 tk1)])) ti25 h4 se rfl (D.opLe rfl rfl rfl (a_buildSlice (v := (.imm 4 [(.agg (cTerm x0)), (.agg [(I v1), (I v2), (.str v3), (LTerm v4 tk1)])] .full)) (bsv_of (es := [(.agg (cTerm x0)), (.agg [(I v1), (I v2), (.str v3), (LTerm v4 tk1)])]) ti23 rfl ti25 (pc rfl (pc rfl pn)) rfl ⟨rfl, by decide, by decide, rfl⟩) ⟨(LTerm ([x0, (STerm.mk v1 v2 v3 v4)]) .full), Le.elemsF (LeF.cons (Le.of_eq (eTerm_eq x0).symm) (LeF.cons (Le.trans (Le.agg (LeL.cons (Le.refl _) (LeL.cons (Le.refl _) (LeL.cons (Le.refl _) (LeL.cons (Le.tok _ _ _) LeL.nil))))) (Le.of_eq (eTerm_eq (STerm.mk v1 v2 v3 v4)).symm)) LeF.nil)), ?_⟩)))))))
    obtain ⟨z0, hr0, hM⟩ := bd hM
    refine D.op rfl rfl (a_call (g := 51) rfl (oc rfl (oc rfl on)) (AC.go (r_s_l1Struct f (⟨#[46]⟩ : ByteArray) ([x0, (STerm.mk v1 v2 v3 v4)]) .full z0 hr0 _) (LeL.refl _) (StLe.refl _) fun v_ σ7 hp_ => ?_))
    obtain ⟨tk2, rfl, t0, nn0, hF5⟩ := hp_
    have lo4 := Lo.call F6 Lo.nil nn0
    have sf := hF5.keep sd (by simp)
    have sg := hF5.keep se (by simp)
    have F7 := F6.andThen hF5 Lo.nil
    refine D.op rfl rfl (a_store (cs' := [(I z0.kind), (I z0.n), (.str z0.name), (LTerm z0.kids tk2)]) ti25 h4 rfl sg rfl (nb rfl) rfl rfl fun σ8 sh hF6 => ?_)
    have sj := hF6.keep sf (m1 ne2)
    have t1 := t0.keep hF6 (not1 (tok_cells t0 sg))
    have F8 := F7.andThen hF6 lo3
    refine D.done <| SW.region <| mv h5 <| it rfl rfl rfl <| sn rfl <| R.done ?_
    exact ⟨n3, Nat.lt_succ_self _, (IntKind.wrap .i64 (v0 - 1)), z0.kind, z0.n, z0.name, z0.kids, tk2, F8, h2, h3, h4, rfl, sj, sh, hM⟩
  · have hM := cF hb0 hM
    refine SW.exit <| Qte <| Qte <| Qbx ?_
    exact hJ0 v1 v2 v3 v4 tk1 _ _ F6 h3 h4 sd se hM

def M_s_l1Digit (f : Nat) (p_0 : ByteArray) (p_1 : Int) : Option Bool :=
 jn (fun (v0 : Bool) => (
 some (v0)
 )) fun J0 => (
 bif decide (0 ≤ p_1) then (
 bif decide (p_1 < (p_0.size : Int)) then (
 Option.bind (p_0.data[(p_1 : Int).toNat]?) fun x0 =>
 bif decide (48 ≤ (x0.toNat : Int)) then (
 Option.bind (p_0.data[(p_1 : Int).toNat]?) fun x1 =>
 J0 (decide ((x1.toNat : Int) ≤ 57))
 ) else (
 J0 false
 )
 ) else (
 J0 false
 )
 ) else (
 J0 false
 )
 )

theorem r_s_l1Digit (f : Nat) (p_0 : ByteArray) (p_1 : Int) (r : Bool) (hM : M_s_l1Digit f p_0 p_1 = some r) (σ_0 : St) : AC Tryz.prog 169 [(.str p_0), (I p_1)] σ_0 (fun v s => v = (.bool r) ∧ s = σ_0) := by
 have F_0 := Fr.refl σ_0 []
 unfold M_s_l1Digit at hM
 refine AC.of_body Tryz.func169 rfl rfl (by rfl) (by simp [Tryz.f169]) <| SW.seqR fun K0 hK0 => sn rfl <| R.done (hK0 _ _ (SW.seqK fun K1 hK1 => ?_))
 obtain ⟨J0, eJ0, hM⟩ := jn_elim hM
 have hJ0 : ∀ (v0 : Bool) (env0 : Env) (σ0 : St), Fr σ_0 σ0 [] → env0.get 4 = some (.bool v0) → J0 v0 = some r → K1 env0 σ0 := by
  intro v0 env0 σ0 F0 h0 hM
  subst eJ0
  refine hK1 _ _ <| SW.ret ?_
  obtain rfl := si hM
  exact ret_of (rc h0 rn) (.bool v0) σ_0 (Le.refl _) F0.back ⟨rfl, rfl⟩
 clear eJ0
 refine SW.region <| mv rfl <| it rfl rfl rfl <| mv rfl ?_
 rcases bcase (decide (0 ≤ p_1)) with hb0 | hb0
 · have hM := cT hb0 hM
   refine R.go (decide (0 ≤ p_1)) rfl hb0 (a_move rfl (R.go (decide (0 ≤ p_1)) rfl hb0 (a_move rfl (R.go (decide (0 ≤ p_1)) rfl hb0 (a_lenStr ti9 rfl rfl (R.go (decide (0 ≤ p_1)) rfl hb0 (a_int rfl rfl rfl (R.op rfl (a_pickT rfl hb0 rfl (mv rfl ?_))))))))))
   rcases bcase (decide (p_1 < (p_0.size : Int))) with hb1 | hb1
   · have hM := cT hb1 hM
     refine R.go (decide (p_1 < (p_0.size : Int))) rfl hb1 (a_move rfl (R.go (decide (p_1 < (p_0.size : Int))) rfl hb1 (a_move rfl ?_)))
     obtain ⟨x0, hx0, hM⟩ := bd hM
     refine R.go (decide (p_1 < (p_0.size : Int))) rfl hb1 (a_idxStr (n := p_1) (b := x0) ti9 rfl rfl rfl (od hb0) hx0 (R.go (decide (p_1 < (p_0.size : Int))) rfl hb1 (a_int rfl rfl rfl (R.op rfl (a_pickT rfl hb1 rfl (mv rfl ?_))))))
     rcases bcase (decide (48 ≤ (x0.toNat : Int))) with hb2 | hb2
     · have hM := cT hb2 hM
       refine R.go (decide (48 ≤ (x0.toNat : Int))) rfl hb2 (a_move rfl (R.go (decide (48 ≤ (x0.toNat : Int))) rfl hb2 (a_move rfl ?_)))
       obtain ⟨x1, hx1, hM⟩ := bd hM
       refine R.go (decide (48 ≤ (x0.toNat : Int))) rfl hb2 (a_idxStr (n := p_1) (b := x1) ti9 rfl rfl rfl (od hb0) hx1 (R.go (decide (48 ≤ (x0.toNat : Int))) rfl hb2 (a_int rfl rfl rfl (R.op rfl (a_pickT rfl hb2 rfl (sn rfl (R.done ?_)))))))
       exact hJ0 (decide ((x1.toNat : Int) ≤ 57)) _ _ F_0 rfl hM
     · have hM := cF hb2 hM
       refine R.not (decide (48 ≤ (x0.toNat : Int))) rfl hb2 <| R.not (decide (48 ≤ (x0.toNat : Int))) rfl hb2 <| R.not (decide (48 ≤ (x0.toNat : Int))) rfl hb2 <| R.not (decide (48 ≤ (x0.toNat : Int))) rfl hb2 <| R.op rfl (a_pickF rfl hb2 rfl (sn rfl (R.done ?_)))
       exact hJ0 false _ _ F_0 rfl hM
   · have hM := cF hb1 hM
     refine R.not (decide (p_1 < (p_0.size : Int))) rfl hb1 <| R.not (decide (p_1 < (p_0.size : Int))) rfl hb1 <| R.not (decide (p_1 < (p_0.size : Int))) rfl hb1 <| R.not (decide (p_1 < (p_0.size : Int))) rfl hb1 <| R.op rfl (a_pickF rfl hb1 rfl (mv rfl (R.not false rfl rfl (R.not false rfl rfl (R.not false rfl rfl (R.not false rfl rfl (R.op rfl (a_pickF rfl rfl rfl (sn rfl (R.done ?_))))))))))
     exact hJ0 false _ _ F_0 rfl hM
 · have hM := cF hb0 hM
   refine R.not (decide (0 ≤ p_1)) rfl hb0 <| R.not (decide (0 ≤ p_1)) rfl hb0 <| R.not (decide (0 ≤ p_1)) rfl hb0 <| R.not (decide (0 ≤ p_1)) rfl hb0 <| R.op rfl (a_pickF rfl hb0 rfl (mv rfl (R.not false rfl rfl (R.not false rfl rfl (R.not false rfl rfl (R.not false rfl rfl (R.op rfl (a_pickF rfl rfl rfl (mv rfl (R.not false rfl rfl (R.not false rfl rfl (R.not false rfl rfl (R.not false rfl rfl (R.op rfl (a_pickF rfl rfl rfl ?_)))))))))))))))
   refine sn rfl <| R.done ?_
   exact hJ0 false _ _ F_0 rfl hM

def L_s_l18Num_1 (v0 : ByteArray) (J0 : Int → Option (Int × Bool)) : Nat → Int → Int → Option (Int × Bool)
 | 0, _, _ => none
 | n + 1, v1, v2 =>
 bif decide (v2 < (v0.size : Int)) then (
 jn (fun (v3 : Bool) => (
 bif v3 then (
 some (0, false)
 ) else (
 bif decide (0 ≤ v2) then
 Option.bind (v0.data[(v2 : Int).toNat]?) fun x0 =>
 L_s_l18Num_1 v0 J0 n (IntKind.wrap .i64 ((IntKind.wrap .i64 (v1 * 10)) + (IntKind.wrap .i64 (IntKind.wrap .u8 ((x0.toNat : Int) - 48))))) (IntKind.wrap .i64 (v2 + 1))
 else none
 )
 )) fun J1 => (
 bif decide (0 ≤ v2) then
 Option.bind (v0.data[(v2 : Int).toNat]?) fun x1 =>
 bif decide ((x1.toNat : Int) < 48) then (
 J1 true
 ) else (
 Option.bind (v0.data[(v2 : Int).toNat]?) fun x2 =>
 J1 (decide (57 < (x2.toNat : Int)))
 )
 else none
 )
 ) else (
 J0 v1
 )

def M_s_l18Num (f : Nat) (p_0 : ByteArray) : Option (Int × Bool) :=
 jn (fun (v4 : Bool) => (
 jn (fun (v0 : ByteArray) => (
 jn (fun (v5 : Bool) => (
 bif v5 then (
 some (0, false)
 ) else (
 jn (fun (v6 : Int) => (
 jn (fun (v7 : Int) => (
 some (v7, true)
 )) fun J2 => (
 bif v4 then (
 J2 (IntKind.wrap .i64 (0 - v6))
 ) else (
 J2 v6
 )
 )
 )) fun J0 => (
 L_s_l18Num_1 v0 J0 f 0 0
 )
 )
 )) fun J3 => (
 bif ((v0.size : Int) == 0) then (
 J3 true
 ) else (
 bif decide (17 < (v0.size : Int)) then (
 J3 true
 ) else (
 Option.bind (v0.data[(0 : Int).toNat]?) fun x3 =>
 bif ((x3.toNat : Int) == 48) then (
 bif decide (1 < (v0.size : Int)) then (
 J3 true
 ) else (
 J3 v4
 )
 ) else (
 J3 false
 )
 )
 )
 )
 )) fun J4 => (
 bif v4 then (
 bif decide ((1 : Int).toNat ≤ p_0.size) then
 J4 (p_0.extract ((1 : Int).toNat) p_0.size)
 else none
 ) else (
 J4 p_0
 )
 )
 )) fun J5 => (
 bif decide (0 < (p_0.size : Int)) then (
 Option.bind (p_0.data[(0 : Int).toNat]?) fun x4 =>
 J5 ((x4.toNat : Int) == 45)
 ) else (
 J5 false
 )
 )

theorem r_s_l18Num (f : Nat) (p_0 : ByteArray) (r : Int × Bool) (hM : M_s_l18Num f p_0 = some r) (σ_0 : St) : AC Tryz.prog 175 [(.str p_0)] σ_0 (fun v s => v = (.tup [(I r.1), (.bool r.2)]) ∧ s = σ_0) := by
 have F_0 := Fr.refl σ_0 []
 unfold M_s_l18Num at hM
 refine AC.of_body Tryz.func175 rfl rfl (by rfl) (by simp [Tryz.f175]) <| SW.seqR fun K0 hK0 => sn rfl <| sn rfl <| R.done (hK0 _ _ (SW.seqK fun K1 hK1 => ?_))
 obtain ⟨J5, eJ0, hM⟩ := jn_elim hM
 have hJ0 : ∀ (v4 : Bool) (env0 : Env) (σ0 : St), Fr σ_0 σ0 [] → env0.get 0 = some (.str p_0) → env0.get 4 = some (.bool v4) → J5 v4 = some r → K1 env0 σ0 := by
  intro v4 env0 σ0 F0 h0 h1 hM
  subst eJ0
  refine hK1 _ _ <| SW.seqK fun K2 hK2 => ?_
  obtain ⟨J4, eJ1, hM⟩ := jn_elim hM
  have hJ1 : ∀ (v0 : ByteArray) (env1 : Env) (σ1 : St), Fr σ_0 σ1 [] → env1.get 0 = some (.str v0) → env1.get 4 = some (.bool v4) → J4 v0 = some r → K2 env1 σ1 := by
   intro v0 env1 σ1 F1 h2 h3 hM
   subst eJ1
   refine hK2 _ _ <| SW.seq <| SW.seqK fun K3 hK3 => ?_
   obtain ⟨J3, eJ2, hM⟩ := jn_elim hM
   have hJ2 : ∀ (v5 : Bool) (env2 : Env) (σ2 : St), Fr σ_0 σ2 [] → env2.get 0 = some (.str v0) → env2.get 4 = some (.bool v4) → env2.get 38 = some (.bool v5) → J3 v5 = some r → K3 env2 σ2 := by
    intro v5 env2 σ2 F2 h4 h5 h6 hM
    subst eJ2
    refine hK3 _ _ <| SW.cond h6 (fun hb0 => ?_) (fun hb0 => ?_)
    · have hM := cT hb0 hM
      refine SW.seqR fun K4 hK4 => sn rfl <| sn rfl <| R.done (hK4 _ _ (SW.ret (Qt ?_)))
      obtain rfl := si hM
      exact ret_of (rc rfl (rc rfl rn)) (.tup [(I 0), (.bool false)]) σ_0 (Le.refl _) F2.back ⟨rfl, rfl⟩
    · have hM := cF hb0 hM
      refine SW.skip <| SW.seqR fun K5 hK5 => sn rfl <| R.done (hK5 _ _ (SW.seqK fun K6 hK6 => ?_))
      obtain ⟨J0, eJ3, hM⟩ := jn_elim hM
      have hJ3 : ∀ (v6 : Int) (env3 : Env) (σ3 : St), Fr σ_0 σ3 [] → env3.get 4 = some (.bool v4) → env3.get 5 = some (I v6) → J0 v6 = some r → K6 env3 σ3 := by
       intro v6 env3 σ3 F3 h7 h8 hM
       subst eJ3
       refine hK6 _ _ <| SW.seqK fun K7 hK7 => ?_
       obtain ⟨J2, eJ4, hM⟩ := jn_elim hM
       have hJ4 : ∀ (v7 : Int) (env4 : Env) (σ4 : St), Fr σ_0 σ4 [] → env4.get 5 = some (I v7) → J2 v7 = some r → K7 env4 σ4 := by
        intro v7 env4 σ4 F4 h9 hM
        subst eJ4
        refine hK7 _ _ <| SW.seqR fun K8 hK8 => mv h9 <| sn rfl <| sn rfl <| R.done (hK8 _ _ (SW.ret ?_))
        obtain rfl := si hM
        exact ret_of (rc rfl (rc rfl rn)) (.tup [(I v7), (.bool true)]) σ_0 (Le.refl _) F4.back ⟨rfl, rfl⟩
       clear eJ4
       refine SW.seqR fun K9 hK9 => mv h7 <| R.done (hK9 _ _ (SW.cond rfl (fun hb1 => ?_) (fun hb1 => ?_)))
       · have hM := cT hb1 hM
         refine SW.region <| mv h8 <| R.op rfl (a_neg (n := v6) rfl (sn rfl (R.done ?_)))
         exact hJ4 (IntKind.wrap .i64 (0 - v6)) _ _ F3 rfl hM
       · have hM := cF hb1 hM
         refine SW.skip ?_
         exact hJ4 v6 _ _ F3 h8 hM
      clear eJ3
      refine SW.seqR fun Ka hKa => sn rfl <| R.done (hKa _ _ (SW.block (SW.loop (LW.ind (I := fun n0 env5 σ5 => ∃ (v1 : Int) (v2 : Int), Fr σ_0 σ5 [] ∧ env5.get 0 = some (.str v0) ∧ env5.get 4 = some (.bool v4) ∧ env5.get 5 = some (I v1) ∧ env5.get 6 = some (I v2) ∧ L_s_l18Num_1 v0 J0 n0 v1 v2 = some r) ?_ f _ _ ⟨0, 0, F2, h4, h5, rfl, rfl, hM⟩))))
      rintro n0 env5 σ5 ⟨v1, v2, F5, ha, hb, hc, hd, hM⟩
      cases n0 with
      | zero => (rw [L_s_l18Num_1] at hM; cases hM)
      | succ n0 =>
       rw [L_s_l18Num_1] at hM
       refine SW.seq <| SW.seqR fun Kb hKb => mv hd <| mv ha <| R.op rfl (a_lenStr ti9 rfl rfl (it rfl rfl rfl (R.done (hKb _ _ (SW.cond rfl (fun hb2 => ?_) (fun hb2 => ?_))))))
       · have hM := cT hb2 hM
         refine SW.skip <| SW.seq <| SW.block <| SW.seq <| SW.seqK fun Kc hKc => ?_
         obtain ⟨J1, eJ5, hM⟩ := jn_elim hM
         have hJ5 : ∀ (v3 : Bool) (env6 : Env) (σ6 : St), Fr σ_0 σ6 [] → env6.get 0 = some (.str v0) → env6.get 4 = some (.bool v4) → env6.get 5 = some (I v1) → env6.get 6 = some (I v2) → env6.get 54 = some (.bool v3) → J1 v3 = some r → Kc env6 σ6 := by
          intro v3 env6 σ6 F6 he hf hg hh hi hM
          subst eJ5
          refine hKc _ _ <| SW.cond hi (fun hb3 => ?_) (fun hb3 => ?_)
          · have hM := cT hb3 hM
            refine SW.seqR fun Kd hKd => sn rfl <| sn rfl <| R.done (hKd _ _ (SW.ret (Qt (Qb (Qt (Qt (Qb (Qt ?_))))))))
            obtain rfl := si hM
            exact ret_of (rc rfl (rc rfl rn)) (.tup [(I 0), (.bool false)]) σ_0 (Le.refl _) F6.back ⟨rfl, rfl⟩
          · have hM := cF hb3 hM
            refine SW.skip <| SW.region <| mv hg <| it rfl rfl rfl <| mv he <| mv hh ?_
            obtain ⟨hg0, hM⟩ := gd hM
            obtain ⟨x0, hx0, hM⟩ := bd hM
            refine R.op rfl (a_idxStr (n := v2) (b := x0) ti9 rfl rfl rfl (od hg0) hx0 (it rfl rfl rfl (R.op rfl (a_convInt (n := (IntKind.wrap .u8 ((x0.toNat : Int) - 48))) ti5 ti3 rfl rfl rfl (it rfl rfl rfl (sn rfl (R.done (SW.region (mv hh (it rfl rfl rfl (sn rfl (R.done ?_))))))))))))
            exact ⟨n0, Nat.lt_succ_self _, (IntKind.wrap .i64 ((IntKind.wrap .i64 (v1 * 10)) + (IntKind.wrap .i64 (IntKind.wrap .u8 ((x0.toNat : Int) - 48))))), (IntKind.wrap .i64 (v2 + 1)), F6, he, hf, rfl, rfl, hM⟩
         clear eJ5
         refine SW.region <| mv ha <| mv hd ?_
         obtain ⟨hg1, hM⟩ := gd hM
         obtain ⟨x1, hx1, hM⟩ := bd hM
         refine R.op rfl (a_idxStr (n := v2) (b := x1) ti9 rfl rfl rfl (od hg1) hx1 (it rfl rfl rfl (mv rfl ?_)))
         rcases bcase (decide ((x1.toNat : Int) < 48)) with hb4 | hb4
         · have hM := cT hb4 hM
           refine R.notf (decide ((x1.toNat : Int) < 48)) rfl hb4 <| R.notf (decide ((x1.toNat : Int) < 48)) rfl hb4 <| R.notf (decide ((x1.toNat : Int) < 48)) rfl hb4 <| R.notf (decide ((x1.toNat : Int) < 48)) rfl hb4 <| R.op rfl (a_pickT rfl hb4 rfl (R.done ?_))
           exact hJ5 true _ _ F5 ha hb hc hd rfl hM
         · have hM := cF hb4 hM
           refine R.gof (decide ((x1.toNat : Int) < 48)) rfl hb4 (a_move ha (R.gof (decide ((x1.toNat : Int) < 48)) rfl hb4 (a_move hd ?_)))
           obtain ⟨x2, hx2, hM⟩ := bd hM
           refine R.gof (decide ((x1.toNat : Int) < 48)) rfl hb4 (a_idxStr (n := v2) (b := x2) ti9 rfl rfl rfl (od hg1) hx2 (R.gof (decide ((x1.toNat : Int) < 48)) rfl hb4 (a_int rfl rfl rfl (R.op rfl (a_pickF rfl hb4 rfl (R.done ?_))))))
           exact hJ5 (decide (57 < (x2.toNat : Int))) _ _ F5 ha hb hc hd rfl hM
       · have hM := cF hb2 hM
         refine SW.exit <| Qte <| Qte <| Qbx ?_
         exact hJ3 v1 _ _ F5 hb hc hM
   clear eJ2
   refine SW.region <| mv h2 <| R.op rfl (a_lenStr ti9 rfl rfl (it rfl rfl rfl (mv rfl ?_)))
   rcases bcase ((v0.size : Int) == 0) with hb5 | hb5
   · have hM := cT hb5 hM
     refine R.notf ((v0.size : Int) == 0) rfl hb5 <| R.notf ((v0.size : Int) == 0) rfl hb5 <| R.notf ((v0.size : Int) == 0) rfl hb5 <| R.op rfl (a_pickT rfl hb5 rfl (mv rfl (R.notf true rfl rfl (R.notf true rfl rfl (R.notf true rfl rfl (R.notf true rfl rfl (R.no rfl (R.no rfl (R.no rfl (R.no rfl (R.no rfl (R.no rfl (R.notf true rfl rfl (R.op rfl (a_pickT rfl rfl rfl ?_)))))))))))))))
     refine R.done ?_
     exact hJ2 true _ _ F1 h2 h3 rfl hM
   · have hM := cF hb5 hM
     refine R.gof ((v0.size : Int) == 0) rfl hb5 (a_move h2 (R.gof ((v0.size : Int) == 0) rfl hb5 (a_lenStr ti9 rfl rfl (R.gof ((v0.size : Int) == 0) rfl hb5 (a_int rfl rfl rfl (R.op rfl (a_pickF rfl hb5 rfl (mv rfl ?_))))))))
     rcases bcase (decide (17 < (v0.size : Int))) with hb6 | hb6
     · have hM := cT hb6 hM
       refine R.notf (decide (17 < (v0.size : Int))) rfl hb6 <| R.notf (decide (17 < (v0.size : Int))) rfl hb6 <| R.notf (decide (17 < (v0.size : Int))) rfl hb6 <| R.notf (decide (17 < (v0.size : Int))) rfl hb6 <| R.no rfl <| R.no rfl <| R.no rfl <| R.no rfl <| R.no rfl <| R.no rfl <| R.notf (decide (17 < (v0.size : Int))) rfl hb6 <| R.op rfl (a_pickT rfl hb6 rfl (R.done ?_))
       exact hJ2 true _ _ F1 h2 h3 rfl hM
     · have hM := cF hb6 hM
       refine R.gof (decide (17 < (v0.size : Int))) rfl hb6 (a_move h2 ?_)
       obtain ⟨x3, hx3, hM⟩ := bd hM
       refine R.gof (decide (17 < (v0.size : Int))) rfl hb6 (a_idxStr (n := 0) (b := x3) ti9 rfl rfl rfl (by decide) hx3 (R.gof (decide (17 < (v0.size : Int))) rfl hb6 (a_int rfl rfl rfl (R.gof (decide (17 < (v0.size : Int))) rfl hb6 (a_move rfl ?_)))))
       rcases bcase ((x3.toNat : Int) == 48) with hb7 | hb7
       · have hM := cT hb7 hM
         refine R.go ((x3.toNat : Int) == 48) rfl hb7 (a_move h2 (R.go ((x3.toNat : Int) == 48) rfl hb7 (a_lenStr ti9 rfl rfl (R.go ((x3.toNat : Int) == 48) rfl hb7 (a_int rfl rfl rfl (R.go ((x3.toNat : Int) == 48) rfl hb7 (a_move rfl ?_)))))))
         rcases bcase (decide (1 < (v0.size : Int))) with hb8 | hb8
         · have hM := cT hb8 hM
           refine R.notf (decide (1 < (v0.size : Int))) rfl hb8 <| R.go ((x3.toNat : Int) == 48) rfl hb7 (a_pickT rfl hb8 rfl (R.gof (decide (17 < (v0.size : Int))) rfl hb6 (a_pickT rfl hb7 rfl (R.op rfl (a_pickF rfl hb6 rfl (R.done ?_))))))
           exact hJ2 true _ _ F1 h2 h3 rfl hM
         · have hM := cF hb8 hM
           refine R.gof (decide (1 < (v0.size : Int))) rfl hb8 (a_move h3 (R.go ((x3.toNat : Int) == 48) rfl hb7 (a_pickF rfl hb8 rfl (R.gof (decide (17 < (v0.size : Int))) rfl hb6 (a_pickT rfl hb7 rfl (R.op rfl (a_pickF rfl hb6 rfl (R.done ?_))))))))
           exact hJ2 v4 _ _ F1 h2 h3 rfl hM
       · have hM := cF hb7 hM
         refine R.not ((x3.toNat : Int) == 48) rfl hb7 <| R.not ((x3.toNat : Int) == 48) rfl hb7 <| R.not ((x3.toNat : Int) == 48) rfl hb7 <| R.not ((x3.toNat : Int) == 48) rfl hb7 <| R.no rfl <| R.not ((x3.toNat : Int) == 48) rfl hb7 <| R.gof (decide (17 < (v0.size : Int))) rfl hb6 (a_pickF rfl hb7 rfl (R.op rfl (a_pickF rfl hb6 rfl (R.done ?_))))
         exact hJ2 false _ _ F1 h2 h3 rfl hM
  clear eJ1
  refine SW.seqR fun Ke hKe => mv h1 <| R.done (hKe _ _ (SW.cond rfl (fun hb9 => ?_) (fun hb9 => ?_)))
  · have hM := cT hb9 hM
    refine SW.region <| mv h0 ?_
    obtain ⟨hg2, hM⟩ := gd hM
    refine R.op rfl (a_sliceStr (l := (1 : Int).toNat) (h := p_0.size) ti9 rfl rfl (lowS rfl (by decide)) highN (od hg2) (Nat.le_refl _) (sn rfl (R.done ?_)))
    exact hJ1 (p_0.extract ((1 : Int).toNat) p_0.size) _ _ F0 rfl h1 hM
  · have hM := cF hb9 hM
    refine SW.skip ?_
    exact hJ1 p_0 _ _ F0 h0 h1 hM
 clear eJ0
 refine SW.region <| mv rfl <| R.op rfl (a_lenStr ti9 rfl rfl (it rfl rfl rfl (mv rfl ?_)))
 rcases bcase (decide (0 < (p_0.size : Int))) with hba | hba
 · have hM := cT hba hM
   refine R.go (decide (0 < (p_0.size : Int))) rfl hba (a_move rfl ?_)
   obtain ⟨x4, hx4, hM⟩ := bd hM
   refine R.go (decide (0 < (p_0.size : Int))) rfl hba (a_idxStr (n := 0) (b := x4) ti9 rfl rfl rfl (by decide) hx4 (R.go (decide (0 < (p_0.size : Int))) rfl hba (a_int rfl rfl rfl (R.op rfl (a_pickT rfl hba rfl (sn rfl (R.done ?_)))))))
   exact hJ0 ((x4.toNat : Int) == 45) _ _ F_0 rfl rfl hM
 · have hM := cF hba hM
   refine R.not (decide (0 < (p_0.size : Int))) rfl hba <| R.not (decide (0 < (p_0.size : Int))) rfl hba <| R.not (decide (0 < (p_0.size : Int))) rfl hba <| R.op rfl (a_pickF rfl hba rfl (sn rfl (R.done ?_)))
   exact hJ0 false _ _ F_0 rfl rfl hM

def M_s_l1Int (f : Nat) (p_0 : Int) : Option STerm :=
 some ((STerm.mk 2 p_0 (⟨#[]⟩ : ByteArray) ([] : List STerm)))

theorem r_s_l1Int (f : Nat) (p_0 : Int) (r : STerm) (hM : M_s_l1Int f p_0 = some r) (σ_0 : St) : AC Tryz.prog 90 [(I p_0)] σ_0 (fun v s => v = (.agg [(I r.kind), (I r.n), (.str r.name), (LTerm r.kids .full)]) ∧ s = σ_0) := by
 have F_0 := Fr.refl σ_0 []
 unfold M_s_l1Int at hM
 refine AC.of_body Tryz.func90 rfl rfl (by rfl) (by simp [Tryz.f90]) <| SW.seqR fun K0 hK0 => alTerm fun a0 σ0 n0 s0 hF0 => ?_
 have lo0 := F_0.lo1 n0
 have F0 := F_0.andThen hF0 Lo.nil
 refine R.done (hK0 _ _ (SW.seqR fun K1 hK1 => mv rfl (R.opLe rfl (a_build (cs := [(I 2), (I p_0), (.str (⟨#[]⟩ : ByteArray)), (.imm 0 [] .full)]) ti25 rfl rfl (pc rfl (pc rfl pn)) rfl ⟨(.agg [(I 2), (I p_0), (.str (⟨#[]⟩ : ByteArray)), (LTerm ([] : List STerm) .full)]), Le.agg (LeL.cons (Le.refl _) (LeL.cons (Le.refl _) (LeL.cons (Le.refl _) (LeL.cons (Le.empty' _ _ _ rfl) LeL.nil)))), (R.op rfl (a_store (cs' := [(I 2), (I p_0), (.str (⟨#[]⟩ : ByteArray)), (LTerm ([] : List STerm) .full)]) ti25 rfl rfl s0 rfl (nb rfl) rfl rfl fun σ1 s1 hF1 => ?_))⟩))))
 have F1 := F0.andThen hF1 lo0
 refine R.done (hK1 _ _ (SW.ret ?_))
 obtain rfl := si hM
 exact ret_of (rcc ti25 rfl s1 rfl rn) (.agg [(I ((STerm.mk 2 p_0 (⟨#[]⟩ : ByteArray) ([] : List STerm)).kind)), (I ((STerm.mk 2 p_0 (⟨#[]⟩ : ByteArray) ([] : List STerm)).n)), (.str ((STerm.mk 2 p_0 (⟨#[]⟩ : ByteArray) ([] : List STerm)).name)), (LTerm ((STerm.mk 2 p_0 (⟨#[]⟩ : ByteArray) ([] : List STerm)).kids) .full)]) σ_0 (Le.refl _) F1.back ⟨rfl, rfl⟩

def L_s_l1Number_1 (f : Nat) (p_0 : ByteArray) (v0 : Int) (J0 : Int → Option (STerm × Int)) : Nat → Int → Option (STerm × Int)
 | 0, _ => none
 | n + 1, v1 =>
 jn (fun (v2 : Bool) => (
 bif v2 then (
 L_s_l1Number_1 f p_0 v0 J0 n (IntKind.wrap .i64 (v1 + 1))
 ) else (
 J0 v1
 )
 )) fun J1 => (
 Option.bind (M_s_l1Digit f p_0 v1) fun z0 =>
 bif z0 then (
 J1 (decide (v1 < (IntKind.wrap .i64 (v0 + 4))))
 ) else (
 J1 false
 )
 )

def M_s_l1Number (f : Nat) (p_0 : ByteArray) (p_1 : Int) : Option (STerm × Int) :=
 jn (fun (v0 : Int) => (
 jn (fun (v3 : Int) => (
 bif decide (0 ≤ v0) then
 bif decide (0 ≤ v3) then
 bif decide ((v0 : Int).toNat ≤ (v3 : Int).toNat) then
 bif decide ((v3 : Int).toNat ≤ p_0.size) then
 Option.bind (M_s_l18Num f (p_0.extract ((v0 : Int).toNat) ((v3 : Int).toNat))) fun z1 =>
 jn (fun (v4 : Bool) => (
 bif v4 then (
 some ((STerm.mk 0 0 (⟨#[]⟩ : ByteArray) ([] : List STerm)), (-1))
 ) else (
 jn (fun (v5 : Int) => (
 Option.bind (M_s_l1Int f v5) fun z2 =>
 some (z2, v3)
 )) fun J2 => (
 bif decide (p_1 < v0) then (
 J2 (IntKind.wrap .i64 (0 - z1.1))
 ) else (
 J2 z1.1
 )
 )
 )
 )) fun J3 => (
 bif (!z1.2) then (
 J3 true
 ) else (
 bif decide (p_1 < v0) then (
 bif (z1.1 == 0) then (
 J3 true
 ) else (
 J3 (decide (999 < z1.1))
 )
 ) else (
 J3 (decide (999 < z1.1))
 )
 )
 )
 else none
 else none
 else none
 else none
 )) fun J0 => (
 L_s_l1Number_1 f p_0 v0 J0 f v0
 )
 )) fun J4 => (
 Option.bind (M_s_l1Sign f p_0 p_1 45) fun z3 =>
 bif z3 then (
 J4 (IntKind.wrap .i64 (p_1 + 1))
 ) else (
 J4 p_1
 )
 )

theorem r_s_l1Number (f : Nat) (p_0 : ByteArray) (p_1 : Int) (r : STerm × Int) (hM : M_s_l1Number f p_0 p_1 = some r) (σ_0 : St) : AC Tryz.prog 170 [(.str p_0), (I p_1)] σ_0 (fun v s => v = (.tup [(.agg [(I r.1.kind), (I r.1.n), (.str r.1.name), (LTerm r.1.kids .full)]), (I r.2)]) ∧ s = σ_0) := by
 have F_0 := Fr.refl σ_0 []
 unfold M_s_l1Number at hM
 refine AC.of_body Tryz.func170 rfl rfl (by rfl) (by simp [Tryz.f170]) <| SW.seqR fun K0 hK0 => alTerm fun a0 σ0 n0 s0 hF0 => ?_
 have lo0 := F_0.lo1 n0
 have F0 := F_0.andThen hF0 Lo.nil
 refine sn rfl <| R.done (hK0 _ _ (SW.seqR fun K1 hK1 => mv rfl (sn rfl (R.done (hK1 _ _ (SW.seqK fun K2 hK2 => ?_))))))
 obtain ⟨J4, eJ0, hM⟩ := jn_elim hM
 have hJ0 : ∀ (v0 : Int) (env0 : Env) (σ1 : St), Fr σ_0 σ1 [] → env0.get 0 = some (.str p_0) → env0.get 1 = some (I p_1) → env0.get 4 = some (.ptr a0 0) → env0.get 6 = some (I v0) → σ1 a0 = some (.cells [(I 0), (I 0), (.str (⟨#[]⟩ : ByteArray)), (LTerm ([] : List STerm) .full)]) → J4 v0 = some r → K2 env0 σ1 := by
  intro v0 env0 σ1 F1 h0 h1 h2 h3 s1 hM
  subst eJ0
  refine hK2 _ _ <| SW.seqR fun K3 hK3 => mv h3 <| sn rfl <| R.done (hK3 _ _ (SW.seqK fun K4 hK4 => ?_))
  obtain ⟨J0, eJ1, hM⟩ := jn_elim hM
  have hJ1 : ∀ (v3 : Int) (env1 : Env) (σ2 : St), Fr σ_0 σ2 [] → env1.get 0 = some (.str p_0) → env1.get 1 = some (I p_1) → env1.get 4 = some (.ptr a0 0) → env1.get 6 = some (I v3) → env1.get 7 = some (I v0) → σ2 a0 = some (.cells [(I 0), (I 0), (.str (⟨#[]⟩ : ByteArray)), (LTerm ([] : List STerm) .full)]) → J0 v3 = some r → K4 env1 σ2 := by
   intro v3 env1 σ2 F2 h4 h5 h6 h7 h8 s2 hM
   subst eJ1
   refine hK4 _ _ <| SW.seqR fun K5 hK5 => mv h4 <| mv h8 <| mv h7 ?_
   obtain ⟨hg0, hM⟩ := gd hM
   obtain ⟨hg1, hM⟩ := gd hM
   obtain ⟨hg2, hM⟩ := gd hM
   obtain ⟨hg3, hM⟩ := gd hM
   refine R.op rfl (a_sliceStr (l := (v0 : Int).toNat) (h := (v3 : Int).toNat) ti9 rfl rfl (lowS rfl (od hg0)) (highS rfl (od hg1)) (od hg2) (od hg3) ?_)
   obtain ⟨z1, hr0, hM⟩ := bd hM
   refine cp (r_s_l18Num f (p_0.extract ((v0 : Int).toNat) ((v3 : Int).toNat)) z1 hr0 _) rfl (oc rfl on) (LeL.refl _) <| mv rfl <| ex rfl rfl <| ex rfl rfl <| sn rfl <| sn rfl <| R.done (hK5 _ _ (SW.seq (SW.seqK fun K6 hK6 => ?_)))
   obtain ⟨J3, eJ2, hM⟩ := jn_elim hM
   have hJ2 : ∀ (v4 : Bool) (env2 : Env) (σ3 : St), Fr σ_0 σ3 [] → env2.get 1 = some (I p_1) → env2.get 4 = some (.ptr a0 0) → env2.get 6 = some (I v3) → env2.get 7 = some (I v0) → env2.get 8 = some (I z1.1) → env2.get 50 = some (.bool v4) → σ3 a0 = some (.cells [(I 0), (I 0), (.str (⟨#[]⟩ : ByteArray)), (LTerm ([] : List STerm) .full)]) → J3 v4 = some r → K6 env2 σ3 := by
    intro v4 env2 σ3 F3 h9 ha hb hc hd he s3 hM
    subst eJ2
    refine hK6 _ _ <| SW.cond he (fun hb0 => ?_) (fun hb0 => ?_)
    · have hM := cT hb0 hM
      refine SW.seqR fun K7 hK7 => R.opLe rfl (a_build (cs := [(I 0), (I 0), (.str (⟨#[]⟩ : ByteArray)), (.imm 0 [] .full)]) ti25 rfl rfl pn rfl ⟨(.agg [(I 0), (I 0), (.str (⟨#[]⟩ : ByteArray)), (LTerm ([] : List STerm) .full)]), Le.agg (LeL.cons (Le.refl _) (LeL.cons (Le.refl _) (LeL.cons (Le.refl _) (LeL.cons (Le.empty' _ _ _ rfl) LeL.nil)))), (R.op rfl (a_store (cs' := [(I 0), (I 0), (.str (⟨#[]⟩ : ByteArray)), (LTerm ([] : List STerm) .full)]) ti25 ha rfl s3 rfl (nb rfl) rfl rfl fun σ4 s4 hF1 => ?_))⟩)
      have F4 := F3.andThen hF1 lo0
      refine sn rfl <| R.done (hK7 _ _ (SW.ret (Qt ?_)))
      obtain rfl := si hM
      exact ret_of (rcc ti25 ha s4 rfl (rc rfl rn)) (.tup [(.agg [(I ((STerm.mk 0 0 (⟨#[]⟩ : ByteArray) ([] : List STerm)).kind)), (I ((STerm.mk 0 0 (⟨#[]⟩ : ByteArray) ([] : List STerm)).n)), (.str ((STerm.mk 0 0 (⟨#[]⟩ : ByteArray) ([] : List STerm)).name)), (LTerm ((STerm.mk 0 0 (⟨#[]⟩ : ByteArray) ([] : List STerm)).kids) .full)]), (I (-1))]) σ_0 (Le.refl _) F4.back ⟨rfl, rfl⟩
    · have hM := cF hb0 hM
      refine SW.skip <| SW.seqK fun K8 hK8 => ?_
      obtain ⟨J2, eJ3, hM⟩ := jn_elim hM
      have hJ3 : ∀ (v5 : Int) (env3 : Env) (σ5 : St), Fr σ_0 σ5 [] → env3.get 4 = some (.ptr a0 0) → env3.get 6 = some (I v3) → env3.get 8 = some (I v5) → σ5 a0 = some (.cells [(I 0), (I 0), (.str (⟨#[]⟩ : ByteArray)), (LTerm ([] : List STerm) .full)]) → J2 v5 = some r → K8 env3 σ5 := by
       intro v5 env3 σ5 F5 hf hg hh s5 hM
       subst eJ3
       refine hK8 _ _ <| SW.seqR fun K9 hK9 => mv hh ?_
       obtain ⟨z2, hr1, hM⟩ := bd hM
       refine cp (r_s_l1Int f v5 z2 hr1 _) rfl (oc rfl on) (LeL.refl _) <| mv hg <| R.op rfl (a_store (cs' := [(I z2.kind), (I z2.n), (.str z2.name), (LTerm z2.kids .full)]) ti25 hf rfl s5 rfl (nb rfl) rfl rfl fun σ6 s6 hF2 => ?_)
       have F6 := F5.andThen hF2 lo0
       refine sn rfl <| R.done (hK9 _ _ (SW.ret ?_))
       obtain rfl := si hM
       exact ret_of (rcc ti25 hf s6 rfl (rc rfl rn)) (.tup [(.agg [(I z2.kind), (I z2.n), (.str z2.name), (LTerm z2.kids .full)]), (I v3)]) σ_0 (Le.refl _) F6.back ⟨rfl, rfl⟩
      clear eJ3
      refine SW.seqR fun Ka hKa => mv hc <| mv h9 <| it rfl rfl rfl <| R.done (hKa _ _ (SW.cond rfl (fun hb1 => ?_) (fun hb1 => ?_)))
      · have hM := cT hb1 hM
        refine SW.region <| mv hd <| R.op rfl (a_neg (n := z1.1) rfl (sn rfl (R.done ?_)))
        exact hJ3 (IntKind.wrap .i64 (0 - z1.1)) _ _ F3 ha hb rfl s3 hM
      · have hM := cF hb1 hM
        refine SW.skip ?_
        exact hJ3 z1.1 _ _ F3 ha hb hd s3 hM
   clear eJ2
   refine SW.region <| mv rfl <| no rfl <| mv rfl ?_
   rcases bcase (!z1.2) with hb2 | hb2
   · have hM := cT hb2 hM
     refine R.notf (!z1.2) rfl hb2 <| R.notf (!z1.2) rfl hb2 <| R.notf (!z1.2) rfl hb2 <| R.notf (!z1.2) rfl hb2 <| R.no rfl <| R.no rfl <| R.notf (!z1.2) rfl hb2 <| R.op rfl (a_pickT rfl hb2 rfl (mv rfl (R.notf true rfl rfl (R.notf true rfl rfl (R.op rfl (a_pickT rfl rfl rfl (R.done ?_)))))))
     exact hJ2 true _ _ F2 h5 h6 h7 h8 rfl rfl s2 hM
   · have hM := cF hb2 hM
     refine R.gof (!z1.2) rfl hb2 (a_move h8 (R.gof (!z1.2) rfl hb2 (a_move h5 (R.gof (!z1.2) rfl hb2 (a_int rfl rfl rfl (R.gof (!z1.2) rfl hb2 (a_move rfl ?_)))))))
     rcases bcase (decide (p_1 < v0)) with hb3 | hb3
     · have hM := cT hb3 hM
       refine R.go (decide (p_1 < v0)) rfl hb3 (a_move rfl (R.go (decide (p_1 < v0)) rfl hb3 (a_int rfl rfl rfl (R.gof (!z1.2) rfl hb2 (a_pickT rfl hb3 rfl (R.op rfl (a_pickF rfl hb2 rfl (mv rfl ?_))))))))
       rcases bcase (z1.1 == 0) with hb4 | hb4
       · have hM := cT hb4 hM
         refine R.notf (z1.1 == 0) rfl hb4 <| R.notf (z1.1 == 0) rfl hb4 <| R.op rfl (a_pickT rfl hb4 rfl (R.done ?_))
         exact hJ2 true _ _ F2 h5 h6 h7 h8 rfl rfl s2 hM
       · have hM := cF hb4 hM
         refine R.gof (z1.1 == 0) rfl hb4 (a_move rfl (R.gof (z1.1 == 0) rfl hb4 (a_int rfl rfl rfl (R.op rfl (a_pickF rfl hb4 rfl (R.done ?_))))))
         exact hJ2 (decide (999 < z1.1)) _ _ F2 h5 h6 h7 h8 rfl rfl s2 hM
     · have hM := cF hb3 hM
       refine R.not (decide (p_1 < v0)) rfl hb3 <| R.not (decide (p_1 < v0)) rfl hb3 <| R.gof (!z1.2) rfl hb2 (a_pickF rfl hb3 rfl (R.op rfl (a_pickF rfl hb2 rfl (mv rfl (R.gof false rfl rfl (a_move rfl (R.gof false rfl rfl (a_int rfl rfl rfl (R.op rfl (a_pickF rfl rfl rfl (R.done ?_)))))))))))
       exact hJ2 (decide (999 < z1.1)) _ _ F2 h5 h6 h7 h8 rfl rfl s2 hM
  clear eJ1
  refine SW.block <| SW.loop <| LW.ind (I := fun n1 env4 σ7 => ∃ (v1 : Int), Fr σ_0 σ7 [] ∧ env4.get 0 = some (.str p_0) ∧ env4.get 1 = some (I p_1) ∧ env4.get 4 = some (.ptr a0 0) ∧ env4.get 6 = some (I v1) ∧ env4.get 7 = some (I v0) ∧ σ7 a0 = some (.cells [(I 0), (I 0), (.str (⟨#[]⟩ : ByteArray)), (LTerm ([] : List STerm) .full)]) ∧ L_s_l1Number_1 f p_0 v0 J0 n1 v1 = some r) ?_ f _ _ ⟨v0, F1, h0, h1, h2, h3, rfl, s1, hM⟩
  rintro n1 env4 σ7 ⟨v1, F7, hi, hj, hk, hl, hm, s7, hM⟩
  cases n1 with
  | zero => (rw [L_s_l1Number_1] at hM; cases hM)
  | succ n1 =>
   rw [L_s_l1Number_1] at hM
   refine SW.seq <| SW.seqK fun Kb hKb => ?_
   obtain ⟨J1, eJ4, hM⟩ := jn_elim hM
   have hJ4 : ∀ (v2 : Bool) (env5 : Env) (σ8 : St), Fr σ_0 σ8 [] → env5.get 0 = some (.str p_0) → env5.get 1 = some (I p_1) → env5.get 4 = some (.ptr a0 0) → env5.get 6 = some (I v1) → env5.get 7 = some (I v0) → env5.get 25 = some (.bool v2) → σ8 a0 = some (.cells [(I 0), (I 0), (.str (⟨#[]⟩ : ByteArray)), (LTerm ([] : List STerm) .full)]) → J1 v2 = some r → Kb env5 σ8 := by
    intro v2 env5 σ8 F8 hn ho hp hq hr hs s8 hM
    subst eJ4
    refine hKb _ _ <| SW.cond hs (fun hb5 => ?_) (fun hb5 => ?_)
    · have hM := cT hb5 hM
      refine SW.skip <| SW.block <| SW.region <| mv hq <| it rfl rfl rfl <| sn rfl <| R.done ?_
      exact ⟨n1, Nat.lt_succ_self _, (IntKind.wrap .i64 (v1 + 1)), F8, hn, ho, hp, rfl, hr, s8, hM⟩
    · have hM := cF hb5 hM
      refine SW.exit <| Qte <| Qte <| Qbx ?_
      exact hJ1 v1 _ _ F8 hn ho hp hq hr s8 hM
   clear eJ4
   refine SW.region <| mv hi <| mv hl ?_
   obtain ⟨z0, hr2, hM⟩ := bd hM
   refine cp (r_s_l1Digit f p_0 v1 z0 hr2 _) rfl (oc rfl (oc rfl on)) (LeL.refl _) <| mv rfl ?_
   rcases bcase z0 with hb6 | hb6
   · have hM := cT hb6 hM
     refine R.go z0 rfl hb6 (a_move hl (R.go z0 rfl hb6 (a_move hm (R.go z0 rfl hb6 (a_int rfl rfl rfl (R.go z0 rfl hb6 (a_int rfl rfl rfl (R.op rfl (a_pickT rfl hb6 rfl (R.done ?_))))))))))
     exact hJ4 (decide (v1 < (IntKind.wrap .i64 (v0 + 4)))) _ _ F7 hi hj hk hl hm rfl s7 hM
   · have hM := cF hb6 hM
     refine R.not z0 rfl hb6 <| R.not z0 rfl hb6 <| R.not z0 rfl hb6 <| R.not z0 rfl hb6 <| R.op rfl (a_pickF rfl hb6 rfl (R.done ?_))
     exact hJ4 false _ _ F7 hi hj hk hl hm rfl s7 hM
 clear eJ0
 refine SW.seqR fun Kc hKc => mv rfl <| mv rfl ?_
 obtain ⟨z3, hr3, hM⟩ := bd hM
 refine cp (r_s_l1Sign f p_0 p_1 45 z3 hr3 _) rfl (oc rfl (oc rfl (oc rfl on))) (LeL.refl _) <| R.done (hKc _ _ (SW.cond rfl (fun hb7 => ?_) (fun hb7 => ?_)))
 · have hM := cT hb7 hM
   refine SW.region <| mv rfl <| it rfl rfl rfl <| sn rfl <| R.done ?_
   exact hJ0 (IntKind.wrap .i64 (p_1 + 1)) _ _ F0 rfl rfl rfl rfl s0 hM
 · have hM := cF hb7 hM
   refine SW.skip ?_
   exact hJ0 p_1 _ _ F0 rfl rfl rfl rfl s0 hM

def M_s_l1Small (f : Nat) (p_0 : ByteArray) (p_1 : Int) : Option Bool :=
 jn (fun (v0 : Bool) => (
 some (v0)
 )) fun J0 => (
 bif decide (0 ≤ p_1) then (
 bif decide (p_1 < (p_0.size : Int)) then (
 Option.bind (p_0.data[(p_1 : Int).toNat]?) fun x0 =>
 bif decide (97 ≤ (x0.toNat : Int)) then (
 Option.bind (p_0.data[(p_1 : Int).toNat]?) fun x1 =>
 J0 (decide ((x1.toNat : Int) ≤ 122))
 ) else (
 J0 false
 )
 ) else (
 J0 false
 )
 ) else (
 J0 false
 )
 )

theorem r_s_l1Small (f : Nat) (p_0 : ByteArray) (p_1 : Int) (r : Bool) (hM : M_s_l1Small f p_0 p_1 = some r) (σ_0 : St) : AC Tryz.prog 176 [(.str p_0), (I p_1)] σ_0 (fun v s => v = (.bool r) ∧ s = σ_0) := by
 have F_0 := Fr.refl σ_0 []
 unfold M_s_l1Small at hM
 refine AC.of_body Tryz.func176 rfl rfl (by rfl) (by simp [Tryz.f176]) <| SW.seqR fun K0 hK0 => sn rfl <| R.done (hK0 _ _ (SW.seqK fun K1 hK1 => ?_))
 obtain ⟨J0, eJ0, hM⟩ := jn_elim hM
 have hJ0 : ∀ (v0 : Bool) (env0 : Env) (σ0 : St), Fr σ_0 σ0 [] → env0.get 4 = some (.bool v0) → J0 v0 = some r → K1 env0 σ0 := by
  intro v0 env0 σ0 F0 h0 hM
  subst eJ0
  refine hK1 _ _ <| SW.ret ?_
  obtain rfl := si hM
  exact ret_of (rc h0 rn) (.bool v0) σ_0 (Le.refl _) F0.back ⟨rfl, rfl⟩
 clear eJ0
 refine SW.region <| mv rfl <| it rfl rfl rfl <| mv rfl ?_
 rcases bcase (decide (0 ≤ p_1)) with hb0 | hb0
 · have hM := cT hb0 hM
   refine R.go (decide (0 ≤ p_1)) rfl hb0 (a_move rfl (R.go (decide (0 ≤ p_1)) rfl hb0 (a_move rfl (R.go (decide (0 ≤ p_1)) rfl hb0 (a_lenStr ti9 rfl rfl (R.go (decide (0 ≤ p_1)) rfl hb0 (a_int rfl rfl rfl (R.op rfl (a_pickT rfl hb0 rfl (mv rfl ?_))))))))))
   rcases bcase (decide (p_1 < (p_0.size : Int))) with hb1 | hb1
   · have hM := cT hb1 hM
     refine R.go (decide (p_1 < (p_0.size : Int))) rfl hb1 (a_move rfl (R.go (decide (p_1 < (p_0.size : Int))) rfl hb1 (a_move rfl ?_)))
     obtain ⟨x0, hx0, hM⟩ := bd hM
     refine R.go (decide (p_1 < (p_0.size : Int))) rfl hb1 (a_idxStr (n := p_1) (b := x0) ti9 rfl rfl rfl (od hb0) hx0 (R.go (decide (p_1 < (p_0.size : Int))) rfl hb1 (a_int rfl rfl rfl (R.op rfl (a_pickT rfl hb1 rfl (mv rfl ?_))))))
     rcases bcase (decide (97 ≤ (x0.toNat : Int))) with hb2 | hb2
     · have hM := cT hb2 hM
       refine R.go (decide (97 ≤ (x0.toNat : Int))) rfl hb2 (a_move rfl (R.go (decide (97 ≤ (x0.toNat : Int))) rfl hb2 (a_move rfl ?_)))
       obtain ⟨x1, hx1, hM⟩ := bd hM
       refine R.go (decide (97 ≤ (x0.toNat : Int))) rfl hb2 (a_idxStr (n := p_1) (b := x1) ti9 rfl rfl rfl (od hb0) hx1 (R.go (decide (97 ≤ (x0.toNat : Int))) rfl hb2 (a_int rfl rfl rfl (R.op rfl (a_pickT rfl hb2 rfl (sn rfl (R.done ?_)))))))
       exact hJ0 (decide ((x1.toNat : Int) ≤ 122)) _ _ F_0 rfl hM
     · have hM := cF hb2 hM
       refine R.not (decide (97 ≤ (x0.toNat : Int))) rfl hb2 <| R.not (decide (97 ≤ (x0.toNat : Int))) rfl hb2 <| R.not (decide (97 ≤ (x0.toNat : Int))) rfl hb2 <| R.not (decide (97 ≤ (x0.toNat : Int))) rfl hb2 <| R.op rfl (a_pickF rfl hb2 rfl (sn rfl (R.done ?_)))
       exact hJ0 false _ _ F_0 rfl hM
   · have hM := cF hb1 hM
     refine R.not (decide (p_1 < (p_0.size : Int))) rfl hb1 <| R.not (decide (p_1 < (p_0.size : Int))) rfl hb1 <| R.not (decide (p_1 < (p_0.size : Int))) rfl hb1 <| R.not (decide (p_1 < (p_0.size : Int))) rfl hb1 <| R.op rfl (a_pickF rfl hb1 rfl (mv rfl (R.not false rfl rfl (R.not false rfl rfl (R.not false rfl rfl (R.not false rfl rfl (R.op rfl (a_pickF rfl rfl rfl (sn rfl (R.done ?_))))))))))
     exact hJ0 false _ _ F_0 rfl hM
 · have hM := cF hb0 hM
   refine R.not (decide (0 ≤ p_1)) rfl hb0 <| R.not (decide (0 ≤ p_1)) rfl hb0 <| R.not (decide (0 ≤ p_1)) rfl hb0 <| R.not (decide (0 ≤ p_1)) rfl hb0 <| R.op rfl (a_pickF rfl hb0 rfl (mv rfl (R.not false rfl rfl (R.not false rfl rfl (R.not false rfl rfl (R.not false rfl rfl (R.op rfl (a_pickF rfl rfl rfl (mv rfl (R.not false rfl rfl (R.not false rfl rfl (R.not false rfl rfl (R.not false rfl rfl (R.op rfl (a_pickF rfl rfl rfl ?_)))))))))))))))
   refine sn rfl <| R.done ?_
   exact hJ0 false _ _ F_0 rfl hM

def M_s_l1Signs (f : Nat) : Option (List ByteArray) :=
 some ([(⟨#[43]⟩ : ByteArray), (⟨#[45]⟩ : ByteArray), (⟨#[42]⟩ : ByteArray), (⟨#[47, 47]⟩ : ByteArray), (⟨#[61]⟩ : ByteArray), (⟨#[92, 61]⟩ : ByteArray), (⟨#[61, 61]⟩ : ByteArray), (⟨#[60]⟩ : ByteArray), (⟨#[62]⟩ : ByteArray), (⟨#[61, 60]⟩ : ByteArray), (⟨#[62, 61]⟩ : ByteArray), (⟨#[61, 58, 61]⟩ : ByteArray), (⟨#[46]⟩ : ByteArray), (⟨#[91, 93]⟩ : ByteArray), (⟨#[33]⟩ : ByteArray)])

theorem r_s_l1Signs (f : Nat) (r : (List ByteArray)) (hM : M_s_l1Signs f = some r) (σ_0 : St) : AC Tryz.prog 150 [] σ_0 (fun v s => v = (LS r .full) ∧ s = σ_0) := by
 have F_0 := Fr.refl σ_0 []
 unfold M_s_l1Signs at hM
 refine AC.of_body Tryz.func150 rfl rfl (by rfl) (by simp [Tryz.f150]) <| SW.seqR fun K0 hK0 => R.opLe rfl (a_assign (v := (.imm 0 [] .full)) rfl ⟨(LS ([] : List ByteArray) .full), Le.empty' _ _ _ rfl, (R.done (hK0 _ _ (SW.seqR fun K1 hK1 => R.op rfl (a_buildSlice (v := (LS ([(⟨#[43]⟩ : ByteArray), (⟨#[45]⟩ : ByteArray), (⟨#[42]⟩ : ByteArray), (⟨#[47, 47]⟩ : ByteArray), (⟨#[61]⟩ : ByteArray), (⟨#[92, 61]⟩ : ByteArray), (⟨#[61, 61]⟩ : ByteArray), (⟨#[60]⟩ : ByteArray), (⟨#[62]⟩ : ByteArray), (⟨#[61, 60]⟩ : ByteArray), (⟨#[62, 61]⟩ : ByteArray), (⟨#[61, 58, 61]⟩ : ByteArray), (⟨#[46]⟩ : ByteArray), (⟨#[91, 93]⟩ : ByteArray), (⟨#[33]⟩ : ByteArray)]) .full)) (bsv_of ti91 rfl ti9 (pc rfl (pc rfl (pc rfl (pc rfl (pc rfl (pc rfl (pc rfl (pc rfl (pc rfl (pc rfl (pc rfl (pc rfl (pc rfl (pc rfl (pc rfl pn))))))))))))))) rfl ⟨rfl, by decide, by decide, rfl⟩) (sn rfl (R.done (hK1 _ _ (SW.ret ?_))))))))⟩)
 obtain rfl := si hM
 exact ret_of (rc rfl rn) (LS ([(⟨#[43]⟩ : ByteArray), (⟨#[45]⟩ : ByteArray), (⟨#[42]⟩ : ByteArray), (⟨#[47, 47]⟩ : ByteArray), (⟨#[61]⟩ : ByteArray), (⟨#[92, 61]⟩ : ByteArray), (⟨#[61, 61]⟩ : ByteArray), (⟨#[60]⟩ : ByteArray), (⟨#[62]⟩ : ByteArray), (⟨#[61, 60]⟩ : ByteArray), (⟨#[62, 61]⟩ : ByteArray), (⟨#[61, 58, 61]⟩ : ByteArray), (⟨#[46]⟩ : ByteArray), (⟨#[91, 93]⟩ : ByteArray), (⟨#[33]⟩ : ByteArray)]) .full) σ_0 (Le.refl _) F_0.back ⟨rfl, rfl⟩

def L_s_l1Name_1 (p_0 : ByteArray) (p_1 : Int) (z0 : (List ByteArray)) (J0 : ByteArray → Option (ByteArray × Int)) : Nat → ByteArray → Int → Option (ByteArray × Int)
 | 0, _, _ => none
 | n + 1, v0, v1 =>
 bif decide (v1 < (z0.length : Int)) then (
 jn (fun (v2 : ByteArray) => (
 L_s_l1Name_1 p_0 p_1 z0 J0 n v2 (IntKind.wrap .i64 (v1 + 1))
 )) fun J1 => (
 bif decide (0 ≤ v1) then
 Option.bind (z0[(v1 : Int).toNat]?) fun x0 =>
 jn (fun (v3 : Bool) => (
 bif v3 then (
 J1 x0
 ) else (
 J1 v0
 )
 )) fun J2 => (
 bif decide ((IntKind.wrap .i64 (p_1 + (x0.size : Int))) ≤ (p_0.size : Int)) then (
 bif decide (0 ≤ p_1) then
 bif decide (0 ≤ (IntKind.wrap .i64 (p_1 + (x0.size : Int)))) then
 bif decide ((p_1 : Int).toNat ≤ ((IntKind.wrap .i64 (p_1 + (x0.size : Int))) : Int).toNat) then
 bif decide (((IntKind.wrap .i64 (p_1 + (x0.size : Int))) : Int).toNat ≤ p_0.size) then
 bif decide ((p_0.extract ((p_1 : Int).toNat) (((IntKind.wrap .i64 (p_1 + (x0.size : Int))) : Int).toNat)) = x0) then (
 J2 (decide ((v0.size : Int) < (x0.size : Int)))
 ) else (
 J2 false
 )
 else none
 else none
 else none
 else none
 ) else (
 J2 false
 )
 )
 else none
 )
 ) else (
 J0 v0
 )

def L_s_l1Name_2 (f : Nat) (p_0 : ByteArray) (J3 : Int → Option (ByteArray × Int)) : Nat → Int → Option (ByteArray × Int)
 | 0, _ => none
 | n + 1, v4 =>
 Option.bind (M_s_l1Small f p_0 v4) fun z1 =>
 bif z1 then (
 L_s_l1Name_2 f p_0 J3 n (IntKind.wrap .i64 (v4 + 1))
 ) else (
 J3 v4
 )

def M_s_l1Name (f : Nat) (p_0 : ByteArray) (p_1 : Int) : Option (ByteArray × Int) :=
 jn (fun (v5 : Int) => (
 bif decide ((IntKind.wrap .i64 (p_1 + 6)) < v5) then (
 some ((⟨#[]⟩ : ByteArray), (-1))
 ) else (
 bif decide (p_1 < v5) then (
 bif decide (0 ≤ p_1) then
 bif decide (0 ≤ v5) then
 bif decide ((p_1 : Int).toNat ≤ (v5 : Int).toNat) then
 bif decide ((v5 : Int).toNat ≤ p_0.size) then
 some ((p_0.extract ((p_1 : Int).toNat) ((v5 : Int).toNat)), v5)
 else none
 else none
 else none
 else none
 ) else (
 Option.bind (M_s_l1Signs f) fun z0 =>
 jn (fun (v6 : ByteArray) => (
 bif decide (v6 = (⟨#[]⟩ : ByteArray)) then (
 some ((⟨#[]⟩ : ByteArray), (-1))
 ) else (
 some (v6, (IntKind.wrap .i64 (p_1 + (v6.size : Int))))
 )
 )) fun J0 => (
 L_s_l1Name_1 p_0 p_1 z0 J0 f (⟨#[]⟩ : ByteArray) 0
 )
 )
 )
 )) fun J3 => (
 L_s_l1Name_2 f p_0 J3 f p_1
 )

theorem r_s_l1Name (f : Nat) (p_0 : ByteArray) (p_1 : Int) (r : ByteArray × Int) (hM : M_s_l1Name f p_0 p_1 = some r) (σ_0 : St) : AC Tryz.prog 171 [(.str p_0), (I p_1)] σ_0 (fun v s => v = (.tup [(.str r.1), (I r.2)]) ∧ s = σ_0) := by
 have F_0 := Fr.refl σ_0 []
 unfold M_s_l1Name at hM
 refine AC.of_body Tryz.func171 rfl rfl (by rfl) (by simp [Tryz.f171]) <| SW.seqR fun K0 hK0 => sn rfl <| sn rfl <| R.done (hK0 _ _ (SW.seqR fun K1 hK1 => mv rfl (sn rfl (R.done (hK1 _ _ (SW.seqK fun K2 hK2 => ?_))))))
 obtain ⟨J3, eJ0, hM⟩ := jn_elim hM
 have hJ0 : ∀ (v5 : Int) (env0 : Env) (σ0 : St), Fr σ_0 σ0 [] → env0.get 0 = some (.str p_0) → env0.get 1 = some (I p_1) → env0.get 6 = some (I v5) → J3 v5 = some r → K2 env0 σ0 := by
  intro v5 env0 σ0 F0 h0 h1 h2 hM
  subst eJ0
  refine hK2 _ _ <| SW.seq <| SW.seqR fun K3 hK3 => mv h2 <| mv h1 <| it rfl rfl rfl <| it rfl rfl rfl <| R.done (hK3 _ _ (SW.cond rfl (fun hb0 => ?_) (fun hb0 => ?_)))
  · have hM := cT hb0 hM
    refine SW.seqR fun K4 hK4 => sn rfl <| sn rfl <| R.done (hK4 _ _ (SW.ret (Qt ?_)))
    obtain rfl := si hM
    exact ret_of (rc rfl (rc rfl rn)) (.tup [(.str (⟨#[]⟩ : ByteArray)), (I (-1))]) σ_0 (Le.refl _) F0.back ⟨rfl, rfl⟩
  · have hM := cF hb0 hM
    refine SW.skip <| SW.seq <| SW.seqR fun K5 hK5 => mv h2 <| mv h1 <| it rfl rfl rfl <| R.done (hK5 _ _ (SW.cond rfl (fun hb1 => ?_) (fun hb1 => ?_)))
    · have hM := cT hb1 hM
      refine SW.seqR fun K6 hK6 => mv h0 <| mv h1 <| mv h2 ?_
      obtain ⟨hg0, hM⟩ := gd hM
      obtain ⟨hg1, hM⟩ := gd hM
      obtain ⟨hg2, hM⟩ := gd hM
      obtain ⟨hg3, hM⟩ := gd hM
      refine R.op rfl (a_sliceStr (l := (p_1 : Int).toNat) (h := (v5 : Int).toNat) ti9 rfl rfl (lowS rfl (od hg0)) (highS rfl (od hg1)) (od hg2) (od hg3) (mv h2 (sn rfl (sn rfl (R.done (hK6 _ _ (SW.ret (Qt ?_))))))))
      obtain rfl := si hM
      exact ret_of (rc rfl (rc rfl rn)) (.tup [(.str (p_0.extract ((p_1 : Int).toNat) ((v5 : Int).toNat))), (I v5)]) σ_0 (Le.refl _) F0.back ⟨rfl, rfl⟩
    · have hM := cF hb1 hM
      refine SW.skip <| SW.seqR fun K7 hK7 => sn rfl <| R.done (hK7 _ _ (SW.seqR fun K8 hK8 => ?_))
      obtain ⟨z0, hr0, hM⟩ := bd hM
      refine cp (r_s_l1Signs f z0 hr0 _) rfl on (LeL.refl _) <| sn rfl <| R.done (hK8 _ _ (SW.seqK fun K9 hK9 => ?_))
      obtain ⟨J0, eJ1, hM⟩ := jn_elim hM
      have hJ1 : ∀ (v6 : ByteArray) (env1 : Env) (σ1 : St), Fr σ_0 σ1 [] → env1.get 1 = some (I p_1) → env1.get 7 = some (.str v6) → J0 v6 = some r → K9 env1 σ1 := by
       intro v6 env1 σ1 F1 h3 h4 hM
       subst eJ1
       refine hK9 _ _ <| SW.seq <| SW.seqR fun Ka hKa => mv h4 <| sr rfl rfl rfl <| R.done (hKa _ _ (SW.cond rfl (fun hb2 => ?_) (fun hb2 => ?_)))
       · have hM := cT hb2 hM
         refine SW.seqR fun Kb hKb => sn rfl <| sn rfl <| R.done (hKb _ _ (SW.ret (Qt ?_)))
         obtain rfl := si hM
         exact ret_of (rc rfl (rc rfl rn)) (.tup [(.str (⟨#[]⟩ : ByteArray)), (I (-1))]) σ_0 (Le.refl _) F1.back ⟨rfl, rfl⟩
       · have hM := cF hb2 hM
         refine SW.skip <| SW.seqR fun Kc hKc => mv h4 <| mv h3 <| mv h4 <| R.op rfl (a_lenStr ti9 rfl rfl (it rfl rfl rfl (sn rfl (sn rfl (R.done (hKc _ _ (SW.ret ?_)))))))
         obtain rfl := si hM
         exact ret_of (rc rfl (rc rfl rn)) (.tup [(.str v6), (I (IntKind.wrap .i64 (p_1 + (v6.size : Int))))]) σ_0 (Le.refl _) F1.back ⟨rfl, rfl⟩
      clear eJ1
      refine SW.seqR fun Kd hKd => sn rfl <| R.done (hKd _ _ (SW.block (SW.loop (LW.ind (I := fun n0 env2 σ2 => ∃ (v0 : ByteArray) (v1 : Int), Fr σ_0 σ2 [] ∧ env2.get 0 = some (.str p_0) ∧ env2.get 1 = some (I p_1) ∧ env2.get 7 = some (.str v0) ∧ env2.get 8 = some (LS z0 .full) ∧ env2.get 9 = some (I v1) ∧ L_s_l1Name_1 p_0 p_1 z0 J0 n0 v0 v1 = some r) ?_ f _ _ ⟨(⟨#[]⟩ : ByteArray), 0, F0, h0, h1, rfl, rfl, rfl, hM⟩))))
      rintro n0 env2 σ2 ⟨v0, v1, F2, h5, h6, h7, h8, h9, hM⟩
      cases n0 with
      | zero => (rw [L_s_l1Name_1] at hM; cases hM)
      | succ n0 =>
       rw [L_s_l1Name_1] at hM
       refine SW.seq <| SW.seqR fun Ke hKe => mv h9 <| mv h8 <| R.op rfl (a_lenImm ti91 rfl rfl (n := (z0.length : Int)) (by simp) (it rfl rfl rfl (R.done (hKe _ _ (SW.cond rfl (fun hb3 => ?_) (fun hb3 => ?_))))))
       · have hM := cT hb3 hM
         refine SW.skip <| SW.seqK fun Kf hKf => ?_
         obtain ⟨J1, eJ2, hM⟩ := jn_elim hM
         have hJ2 : ∀ (v2 : ByteArray) (env3 : Env) (σ3 : St), Fr σ_0 σ3 [] → env3.get 0 = some (.str p_0) → env3.get 1 = some (I p_1) → env3.get 7 = some (.str v2) → env3.get 8 = some (LS z0 .full) → env3.get 9 = some (I v1) → J1 v2 = some r → Kf env3 σ3 := by
          intro v2 env3 σ3 F3 ha hb hc hd he hM
          subst eJ2
          refine hKf _ _ <| SW.region <| mv he <| it rfl rfl rfl <| sn rfl <| R.done ?_
          exact ⟨n0, Nat.lt_succ_self _, v2, (IntKind.wrap .i64 (v1 + 1)), F3, ha, hb, hc, hd, rfl, hM⟩
         clear eJ2
         refine SW.block <| SW.seqR fun Kg hKg => mv h8 <| mv h9 ?_
         obtain ⟨hg4, hM⟩ := gd hM
         obtain ⟨x0, hx0, hM⟩ := bd hM
         refine R.op rfl (a_idxImm (f := AV.str) (xs := z0) (n := v1) (e := x0) (v := (.str x0)) ti91 rfl ti9 rfl rfl rfl (od hg4) hx0 rfl (li ti9 rfl rfl (R.op rfl (a_lenStr ti9 rfl rfl (sn rfl (R.done (hKg _ _ (SW.seqK fun Kh hKh => ?_))))))))
         obtain ⟨J2, eJ3, hM⟩ := jn_elim hM
         have hJ3 : ∀ (v3 : Bool) (env4 : Env) (σ4 : St), Fr σ_0 σ4 [] → env4.get 0 = some (.str p_0) → env4.get 1 = some (I p_1) → env4.get 7 = some (.str v0) → env4.get 8 = some (LS z0 .full) → env4.get 9 = some (I v1) → env4.get 65 = some (.bool v3) → J2 v3 = some r → Kh env4 σ4 := by
          intro v3 env4 σ4 F4 hf hg hh hi hj hk hM
          subst eJ3
          refine hKh _ _ <| SW.cond hk (fun hb4 => ?_) (fun hb4 => ?_)
          · have hM := cT hb4 hM
            refine SW.region <| mv hi <| mv hj <| R.op rfl (a_idxImm (f := AV.str) (xs := z0) (n := v1) (e := x0) (v := (.str x0)) ti91 rfl ti9 rfl rfl rfl (od hg4) hx0 rfl (li ti9 rfl rfl (sn rfl (R.done ?_))))
            exact hJ2 x0 _ _ F4 hf hg rfl hi hj hM
          · have hM := cF hb4 hM
            refine SW.skip ?_
            exact hJ2 v0 _ _ F4 hf hg hh hi hj hM
         clear eJ3
         refine SW.draw' mixed [(0, false), (1, false), (2, false), (3, false), (4, false), (5, false), (6, false), (7, false), (8, false), (9, false), (10, false), (11, false), (12, false), (13, false), (14, false), (15, false), (16, false), (17, false), (18, false), (19, false), (20, false), (21, false), (22, false), (23, false), (24, false)] [] [] (by kernel_rfl) (by kernel_rfl) (fun t ht => by simp at ht) <| D.op rfl rfl (a_move h6 (D.op rfl rfl (a_move rfl (D.op rfl rfl (a_int rfl rfl rfl (D.op rfl rfl (a_move h5 (D.op rfl rfl (a_lenStr ti9 rfl rfl (D.op rfl rfl (a_int rfl rfl rfl (D.op rfl rfl (a_move rfl ?_)))))))))))))
         rcases bcase (decide ((IntKind.wrap .i64 (p_1 + (x0.size : Int))) ≤ (p_0.size : Int))) with hb5 | hb5
         · have hM := cT hb5 hM
           refine D.op rfl (gT (decide ((IntKind.wrap .i64 (p_1 + (x0.size : Int))) ≤ (p_0.size : Int))) rfl hb5) (a_move h5 (D.op rfl (gT (decide ((IntKind.wrap .i64 (p_1 + (x0.size : Int))) ≤ (p_0.size : Int))) rfl hb5) (a_move h6 (D.op rfl (gT (decide ((IntKind.wrap .i64 (p_1 + (x0.size : Int))) ≤ (p_0.size : Int))) rfl hb5) (a_move h6 (D.op rfl (gT (decide ((IntKind.wrap .i64 (p_1 + (x0.size : Int))) ≤ (p_0.size : Int))) rfl hb5) (a_move rfl (D.op rfl (gT (decide ((IntKind.wrap .i64 (p_1 + (x0.size : Int))) ≤ (p_0.size : Int))) rfl hb5) (a_int rfl rfl rfl ?_)))))))))
           obtain ⟨hg5, hM⟩ := gd hM
           obtain ⟨hg6, hM⟩ := gd hM
           obtain ⟨hg7, hM⟩ := gd hM
           obtain ⟨hg8, hM⟩ := gd hM
           refine D.op rfl (gT (decide ((IntKind.wrap .i64 (p_1 + (x0.size : Int))) ≤ (p_0.size : Int))) rfl hb5) (a_sliceStr (l := (p_1 : Int).toNat) (h := ((IntKind.wrap .i64 (p_1 + (x0.size : Int))) : Int).toNat) ti9 rfl rfl (lowS rfl (od hg5)) (highS rfl (od hg6)) (od hg7) (od hg8) (D.op rfl (gT (decide ((IntKind.wrap .i64 (p_1 + (x0.size : Int))) ≤ (p_0.size : Int))) rfl hb5) (a_move h8 (D.op rfl (gT (decide ((IntKind.wrap .i64 (p_1 + (x0.size : Int))) ≤ (p_0.size : Int))) rfl hb5) (a_move h9 (D.op rfl (gT (decide ((IntKind.wrap .i64 (p_1 + (x0.size : Int))) ≤ (p_0.size : Int))) rfl hb5) (a_idxImm (f := AV.str) (xs := z0) (n := v1) (e := x0) (v := (.str x0)) ti91 rfl ti9 rfl rfl rfl (od hg4) hx0 rfl (D.op rfl (gT (decide ((IntKind.wrap .i64 (p_1 + (x0.size : Int))) ≤ (p_0.size : Int))) rfl hb5) (a_loadIptr ti9 rfl rfl (D.op rfl (gT (decide ((IntKind.wrap .i64 (p_1 + (x0.size : Int))) ≤ (p_0.size : Int))) rfl hb5) (a_str rfl rfl rfl (D.op rfl rfl (a_pickT rfl hb5 rfl (D.op rfl rfl (a_move rfl ?_)))))))))))))))
           rcases bcase (decide ((p_0.extract ((p_1 : Int).toNat) (((IntKind.wrap .i64 (p_1 + (x0.size : Int))) : Int).toNat)) = x0)) with hb6 | hb6
           · have hM := cT hb6 hM
             refine D.op rfl (gT (decide ((p_0.extract ((p_1 : Int).toNat) (((IntKind.wrap .i64 (p_1 + (x0.size : Int))) : Int).toNat)) = x0)) rfl hb6) (a_move rfl (D.op rfl (gT (decide ((p_0.extract ((p_1 : Int).toNat) (((IntKind.wrap .i64 (p_1 + (x0.size : Int))) : Int).toNat)) = x0)) rfl hb6) (a_move h7 (D.op rfl (gT (decide ((p_0.extract ((p_1 : Int).toNat) (((IntKind.wrap .i64 (p_1 + (x0.size : Int))) : Int).toNat)) = x0)) rfl hb6) (a_lenStr ti9 rfl rfl (D.op rfl (gT (decide ((p_0.extract ((p_1 : Int).toNat) (((IntKind.wrap .i64 (p_1 + (x0.size : Int))) : Int).toNat)) = x0)) rfl hb6) (a_int rfl rfl rfl (D.op rfl rfl (a_pickT rfl hb6 rfl (D.done ?_))))))))))
             exact hJ3 (decide ((v0.size : Int) < (x0.size : Int))) _ _ F2 h5 h6 h7 h8 h9 rfl hM
           · have hM := cF hb6 hM
             refine D.no rfl (gTn (decide ((p_0.extract ((p_1 : Int).toNat) (((IntKind.wrap .i64 (p_1 + (x0.size : Int))) : Int).toNat)) = x0)) rfl hb6) <| D.no rfl (gTn (decide ((p_0.extract ((p_1 : Int).toNat) (((IntKind.wrap .i64 (p_1 + (x0.size : Int))) : Int).toNat)) = x0)) rfl hb6) <| D.no rfl (gTn (decide ((p_0.extract ((p_1 : Int).toNat) (((IntKind.wrap .i64 (p_1 + (x0.size : Int))) : Int).toNat)) = x0)) rfl hb6) <| D.no rfl (gTn (decide ((p_0.extract ((p_1 : Int).toNat) (((IntKind.wrap .i64 (p_1 + (x0.size : Int))) : Int).toNat)) = x0)) rfl hb6) <| D.op rfl rfl (a_pickF rfl hb6 rfl (D.done ?_))
             exact hJ3 false _ _ F2 h5 h6 h7 h8 h9 rfl hM
         · have hM := cF hb5 hM
           refine D.no rfl (gTn (decide ((IntKind.wrap .i64 (p_1 + (x0.size : Int))) ≤ (p_0.size : Int))) rfl hb5) <| D.no rfl (gTn (decide ((IntKind.wrap .i64 (p_1 + (x0.size : Int))) ≤ (p_0.size : Int))) rfl hb5) <| D.no rfl (gTn (decide ((IntKind.wrap .i64 (p_1 + (x0.size : Int))) ≤ (p_0.size : Int))) rfl hb5) <| D.no rfl (gTn (decide ((IntKind.wrap .i64 (p_1 + (x0.size : Int))) ≤ (p_0.size : Int))) rfl hb5) <| D.no rfl (gTn (decide ((IntKind.wrap .i64 (p_1 + (x0.size : Int))) ≤ (p_0.size : Int))) rfl hb5) <| D.no rfl (gTn (decide ((IntKind.wrap .i64 (p_1 + (x0.size : Int))) ≤ (p_0.size : Int))) rfl hb5) <| D.no rfl (gTn (decide ((IntKind.wrap .i64 (p_1 + (x0.size : Int))) ≤ (p_0.size : Int))) rfl hb5) <| D.no rfl (gTn (decide ((IntKind.wrap .i64 (p_1 + (x0.size : Int))) ≤ (p_0.size : Int))) rfl hb5) <| D.no rfl (gTn (decide ((IntKind.wrap .i64 (p_1 + (x0.size : Int))) ≤ (p_0.size : Int))) rfl hb5) <| D.no rfl (gTn (decide ((IntKind.wrap .i64 (p_1 + (x0.size : Int))) ≤ (p_0.size : Int))) rfl hb5) <| D.no rfl (gTn (decide ((IntKind.wrap .i64 (p_1 + (x0.size : Int))) ≤ (p_0.size : Int))) rfl hb5) <| D.op rfl rfl (a_pickF rfl hb5 rfl (D.op rfl rfl (a_move rfl (D.no rfl (gTn false rfl rfl) (D.no rfl (gTn false rfl rfl) (D.no rfl (gTn false rfl rfl) (D.no rfl (gTn false rfl rfl) ?_)))))))
           refine D.op rfl rfl (a_pickF rfl rfl rfl (D.done ?_))
           exact hJ3 false _ _ F2 h5 h6 h7 h8 h9 rfl hM
       · have hM := cF hb3 hM
         refine SW.exit <| Qte <| Qte <| Qbx ?_
         exact hJ1 v0 _ _ F2 h6 h7 hM
 clear eJ0
 refine SW.block <| SW.loop <| LW.ind (I := fun n1 env5 σ5 => ∃ (v4 : Int), Fr σ_0 σ5 [] ∧ env5.get 0 = some (.str p_0) ∧ env5.get 1 = some (I p_1) ∧ env5.get 6 = some (I v4) ∧ L_s_l1Name_2 f p_0 J3 n1 v4 = some r) ?_ f _ _ ⟨p_1, F_0, rfl, rfl, rfl, hM⟩
 rintro n1 env5 σ5 ⟨v4, F5, hl, hm, hn, hM⟩
 cases n1 with
 | zero => (rw [L_s_l1Name_2] at hM; cases hM)
 | succ n1 =>
  rw [L_s_l1Name_2] at hM
  refine SW.seq <| SW.seqR fun Ki hKi => mv hl <| mv hn ?_
  obtain ⟨z1, hr1, hM⟩ := bd hM
  refine cp (r_s_l1Small f p_0 v4 z1 hr1 _) rfl (oc rfl (oc rfl on)) (LeL.refl _) <| R.done (hKi _ _ (SW.cond rfl (fun hb7 => ?_) (fun hb7 => ?_)))
  · have hM := cT hb7 hM
    refine SW.skip <| SW.block <| SW.region <| mv hn <| it rfl rfl rfl <| sn rfl <| R.done ?_
    exact ⟨n1, Nat.lt_succ_self _, (IntKind.wrap .i64 (v4 + 1)), F5, hl, hm, rfl, hM⟩
  · have hM := cF hb7 hM
    refine SW.exit <| Qte <| Qte <| Qbx ?_
    exact hJ0 v4 _ _ F5 hl hm hn hM

def M_s_l2Op (f : Nat) (p_0 : ByteArray) (p_1 : Int) : Option (ByteArray × Int) :=
 jn (fun (v0 : Int) => (
 bif decide ((p_0.size : Int) ≤ v0) then (
 some ((⟨#[]⟩ : ByteArray), p_1)
 ) else (
 Option.bind (M_s_l1Name f p_0 v0) fun z0 =>
 jn (fun (v1 : Bool) => (
 bif v1 then (
 some ((⟨#[]⟩ : ByteArray), p_1)
 ) else (
 jn (fun (v2 : Bool) => (
 jn (fun (v3 : Bool) => (
 bif v3 then (
 some ((⟨#[]⟩ : ByteArray), p_1)
 ) else (
 jn (fun (v4 : Int) => (
 some (z0.1, v4)
 )) fun J0 => (
 bif v2 then (
 J0 (IntKind.wrap .i64 (z0.2 + 1))
 ) else (
 J0 z0.2
 )
 )
 )
 )) fun J1 => (
 bif (!(v2 == (decide (p_1 < v0)))) then (
 J1 true
 ) else (
 bif v2 then (
 Option.bind (M_s_l1Sign f p_0 z0.2 32) fun z1 =>
 J1 (!z1)
 ) else (
 J1 false
 )
 )
 )
 )) fun J2 => (
 bif decide (z0.1 = (⟨#[105, 115]⟩ : ByteArray)) then (
 J2 true
 ) else (
 J2 (decide (z0.1 = (⟨#[109, 111, 100]⟩ : ByteArray)))
 )
 )
 )
 )) fun J3 => (
 bif decide (z0.2 < 0) then (
 J3 true
 ) else (
 Option.bind (M_s_l2Level f z0.1) fun z2 =>
 J3 (z2 == 0)
 )
 )
 )
 )) fun J4 => (
 Option.bind (M_s_l1Sign f p_0 p_1 32) fun z3 =>
 bif z3 then (
 J4 (IntKind.wrap .i64 (p_1 + 1))
 ) else (
 J4 p_1
 )
 )

theorem r_s_l2Op (f : Nat) (p_0 : ByteArray) (p_1 : Int) (r : ByteArray × Int) (hM : M_s_l2Op f p_0 p_1 = some r) (σ_0 : St) : AC Tryz.prog 163 [(.str p_0), (I p_1)] σ_0 (fun v s => v = (.tup [(.str r.1), (I r.2)]) ∧ s = σ_0) := by
 have F_0 := Fr.refl σ_0 []
 unfold M_s_l2Op at hM
 refine AC.of_body Tryz.func163 rfl rfl (by rfl) (by simp [Tryz.f163]) <| SW.seqR fun K0 hK0 => sn rfl <| sn rfl <| R.done (hK0 _ _ (SW.seqR fun K1 hK1 => mv rfl (sn rfl (R.done (hK1 _ _ (SW.seqK fun K2 hK2 => ?_))))))
 obtain ⟨J4, eJ0, hM⟩ := jn_elim hM
 have hJ0 : ∀ (v0 : Int) (env0 : Env) (σ0 : St), Fr σ_0 σ0 [] → env0.get 0 = some (.str p_0) → env0.get 1 = some (I p_1) → env0.get 6 = some (I v0) → J4 v0 = some r → K2 env0 σ0 := by
  intro v0 env0 σ0 F0 h0 h1 h2 hM
  subst eJ0
  refine hK2 _ _ <| SW.seq <| SW.seqR fun K3 hK3 => mv h2 <| mv h0 <| R.op rfl (a_lenStr ti9 rfl rfl (it rfl rfl rfl (R.done (hK3 _ _ (SW.cond rfl (fun hb0 => ?_) (fun hb0 => ?_))))))
  · have hM := cT hb0 hM
    refine SW.seqR fun K4 hK4 => mv h1 <| sn rfl <| sn rfl <| R.done (hK4 _ _ (SW.ret (Qt ?_)))
    obtain rfl := si hM
    exact ret_of (rc rfl (rc rfl rn)) (.tup [(.str (⟨#[]⟩ : ByteArray)), (I p_1)]) σ_0 (Le.refl _) F0.back ⟨rfl, rfl⟩
  · have hM := cF hb0 hM
    refine SW.skip <| SW.seqR fun K5 hK5 => mv h0 <| mv h2 ?_
    obtain ⟨z0, hr0, hM⟩ := bd hM
    refine cp (r_s_l1Name f p_0 v0 z0 hr0 _) rfl (oc rfl (oc rfl on)) (LeL.refl _) <| mv rfl <| ex rfl rfl <| ex rfl rfl <| sn rfl <| sn rfl <| R.done (hK5 _ _ (SW.seq (SW.seqK fun K6 hK6 => ?_)))
    obtain ⟨J3, eJ1, hM⟩ := jn_elim hM
    have hJ1 : ∀ (v1 : Bool) (env1 : Env) (σ1 : St), Fr σ_0 σ1 [] → env1.get 0 = some (.str p_0) → env1.get 1 = some (I p_1) → env1.get 6 = some (I v0) → env1.get 7 = some (.str z0.1) → env1.get 8 = some (I z0.2) → env1.get 33 = some (.bool v1) → J3 v1 = some r → K6 env1 σ1 := by
     intro v1 env1 σ1 F1 h3 h4 h5 h6 h7 h8 hM
     subst eJ1
     refine hK6 _ _ <| SW.cond h8 (fun hb1 => ?_) (fun hb1 => ?_)
     · have hM := cT hb1 hM
       refine SW.seqR fun K7 hK7 => mv h4 <| sn rfl <| sn rfl <| R.done (hK7 _ _ (SW.ret (Qt ?_)))
       obtain rfl := si hM
       exact ret_of (rc rfl (rc rfl rn)) (.tup [(.str (⟨#[]⟩ : ByteArray)), (I p_1)]) σ_0 (Le.refl _) F1.back ⟨rfl, rfl⟩
     · have hM := cF hb1 hM
       refine SW.skip <| SW.seqK fun K8 hK8 => ?_
       obtain ⟨J2, eJ2, hM⟩ := jn_elim hM
       have hJ2 : ∀ (v2 : Bool) (env2 : Env) (σ2 : St), Fr σ_0 σ2 [] → env2.get 0 = some (.str p_0) → env2.get 1 = some (I p_1) → env2.get 6 = some (I v0) → env2.get 7 = some (.str z0.1) → env2.get 8 = some (I z0.2) → env2.get 9 = some (.bool v2) → J2 v2 = some r → K8 env2 σ2 := by
        intro v2 env2 σ2 F2 h9 ha hb hc hd he hM
        subst eJ2
        refine hK8 _ _ <| SW.seq <| SW.seqK fun K9 hK9 => ?_
        obtain ⟨J1, eJ3, hM⟩ := jn_elim hM
        have hJ3 : ∀ (v3 : Bool) (env3 : Env) (σ3 : St), Fr σ_0 σ3 [] → env3.get 1 = some (I p_1) → env3.get 7 = some (.str z0.1) → env3.get 8 = some (I z0.2) → env3.get 9 = some (.bool v2) → env3.get 54 = some (.bool v3) → J1 v3 = some r → K9 env3 σ3 := by
         intro v3 env3 σ3 F3 hf hg hh hi hj hM
         subst eJ3
         refine hK9 _ _ <| SW.cond hj (fun hb2 => ?_) (fun hb2 => ?_)
         · have hM := cT hb2 hM
           refine SW.seqR fun Ka hKa => mv hf <| sn rfl <| sn rfl <| R.done (hKa _ _ (SW.ret (Qt ?_)))
           obtain rfl := si hM
           exact ret_of (rc rfl (rc rfl rn)) (.tup [(.str (⟨#[]⟩ : ByteArray)), (I p_1)]) σ_0 (Le.refl _) F3.back ⟨rfl, rfl⟩
         · have hM := cF hb2 hM
           refine SW.skip <| SW.seqK fun Kb hKb => ?_
           obtain ⟨J0, eJ4, hM⟩ := jn_elim hM
           have hJ4 : ∀ (v4 : Int) (env4 : Env) (σ4 : St), Fr σ_0 σ4 [] → env4.get 7 = some (.str z0.1) → env4.get 8 = some (I v4) → J0 v4 = some r → Kb env4 σ4 := by
            intro v4 env4 σ4 F4 hk hl hM
            subst eJ4
            refine hKb _ _ <| SW.seqR fun Kc hKc => mv hk <| mv hl <| sn rfl <| sn rfl <| R.done (hKc _ _ (SW.ret ?_))
            obtain rfl := si hM
            exact ret_of (rc rfl (rc rfl rn)) (.tup [(.str z0.1), (I v4)]) σ_0 (Le.refl _) F4.back ⟨rfl, rfl⟩
           clear eJ4
           refine SW.seqR fun Kd hKd => mv hi <| R.done (hKd _ _ (SW.cond rfl (fun hb3 => ?_) (fun hb3 => ?_)))
           · have hM := cT hb3 hM
             refine SW.region <| mv hh <| it rfl rfl rfl <| sn rfl <| R.done ?_
             exact hJ4 (IntKind.wrap .i64 (z0.2 + 1)) _ _ F3 hg rfl hM
           · have hM := cF hb3 hM
             refine SW.skip ?_
             exact hJ4 z0.2 _ _ F3 hg hh hM
        clear eJ3
        refine SW.region <| mv he <| mv hb <| mv ha <| it rfl rfl rfl <| R.op rfl (a_bin (a := (.bool v2)) (b := (.bool (decide (p_1 < v0)))) (v := (.bool (!(v2 == (decide (p_1 < v0)))))) rfl rfl (bin_bool ti4 rfl rfl) (mv rfl ?_))
        rcases bcase (!(v2 == (decide (p_1 < v0)))) with hb4 | hb4
        · have hM := cT hb4 hM
          refine R.notf (!(v2 == (decide (p_1 < v0)))) rfl hb4 <| R.notf (!(v2 == (decide (p_1 < v0)))) rfl hb4 <| R.no rfl <| R.no rfl <| R.no rfl <| R.no rfl <| R.notf (!(v2 == (decide (p_1 < v0)))) rfl hb4 <| R.op rfl (a_pickT rfl hb4 rfl (R.done ?_))
          exact hJ3 true _ _ F2 ha hc hd he rfl hM
        · have hM := cF hb4 hM
          refine R.gof (!(v2 == (decide (p_1 < v0)))) rfl hb4 (a_move he (R.gof (!(v2 == (decide (p_1 < v0)))) rfl hb4 (a_move rfl ?_)))
          rcases bcase v2 with hb5 | hb5
          · have hM := cT hb5 hM
            refine R.go v2 rfl hb5 (a_move h9 (R.go v2 rfl hb5 (a_move hd ?_)))
            obtain ⟨z1, hr1, hM⟩ := bd hM
            refine R.go v2 rfl hb5 (a_call (g := 155) rfl (oc rfl (oc rfl (oc rfl on))) (AC.goP (r_s_l1Sign f p_0 z0.2 32 z1 hr1 _) (LeL.refl _) (R.go v2 rfl hb5 (a_not rfl (R.gof (!(v2 == (decide (p_1 < v0)))) rfl hb4 (a_pickT rfl hb5 rfl (R.op rfl (a_pickF rfl hb4 rfl (R.done ?_)))))))))
            exact hJ3 (!z1) _ _ F2 ha hc hd he rfl hM
          · have hM := cF hb5 hM
            refine R.not v2 rfl hb5 <| R.not v2 rfl hb5 <| R.not v2 rfl hb5 <| R.not v2 rfl hb5 <| R.gof (!(v2 == (decide (p_1 < v0)))) rfl hb4 (a_pickF rfl hb5 rfl (R.op rfl (a_pickF rfl hb4 rfl (R.done ?_))))
            exact hJ3 false _ _ F2 ha hc hd he rfl hM
       clear eJ2
       refine SW.region <| mv h6 <| sr rfl rfl rfl <| mv rfl ?_
       rcases bcase (decide (z0.1 = (⟨#[105, 115]⟩ : ByteArray))) with hb6 | hb6
       · have hM := cT hb6 hM
         refine R.notf (decide (z0.1 = (⟨#[105, 115]⟩ : ByteArray))) rfl hb6 <| R.notf (decide (z0.1 = (⟨#[105, 115]⟩ : ByteArray))) rfl hb6 <| R.op rfl (a_pickT rfl hb6 rfl (sn rfl (R.done ?_)))
         exact hJ2 true _ _ F1 h3 h4 h5 h6 h7 rfl hM
       · have hM := cF hb6 hM
         refine R.gof (decide (z0.1 = (⟨#[105, 115]⟩ : ByteArray))) rfl hb6 (a_move h6 (R.gof (decide (z0.1 = (⟨#[105, 115]⟩ : ByteArray))) rfl hb6 (a_str rfl rfl rfl (R.op rfl (a_pickF rfl hb6 rfl (sn rfl (R.done ?_)))))))
         exact hJ2 (decide (z0.1 = (⟨#[109, 111, 100]⟩ : ByteArray))) _ _ F1 h3 h4 h5 h6 h7 rfl hM
    clear eJ1
    refine SW.region <| mv rfl <| it rfl rfl rfl <| mv rfl ?_
    rcases bcase (decide (z0.2 < 0)) with hb7 | hb7
    · have hM := cT hb7 hM
      refine R.notf (decide (z0.2 < 0)) rfl hb7 <| R.notf (decide (z0.2 < 0)) rfl hb7 <| R.notf (decide (z0.2 < 0)) rfl hb7 <| R.op rfl (a_pickT rfl hb7 rfl (R.done ?_))
      exact hJ1 true _ _ F0 h0 h1 h2 rfl rfl rfl hM
    · have hM := cF hb7 hM
      refine R.gof (decide (z0.2 < 0)) rfl hb7 (a_move rfl ?_)
      obtain ⟨z2, hr2, hM⟩ := bd hM
      refine R.gof (decide (z0.2 < 0)) rfl hb7 (a_call (g := 116) rfl (oc rfl on) (AC.goP (r_s_l2Level f z0.1 z2 hr2 _) (LeL.refl _) (R.gof (decide (z0.2 < 0)) rfl hb7 (a_int rfl rfl rfl (R.op rfl (a_pickF rfl hb7 rfl (R.done ?_)))))))
      exact hJ1 (z2 == 0) _ _ F0 h0 h1 h2 rfl rfl rfl hM
 clear eJ0
 refine SW.seqR fun Ke hKe => mv rfl <| mv rfl ?_
 obtain ⟨z3, hr3, hM⟩ := bd hM
 refine cp (r_s_l1Sign f p_0 p_1 32 z3 hr3 _) rfl (oc rfl (oc rfl (oc rfl on))) (LeL.refl _) <| R.done (hKe _ _ (SW.cond rfl (fun hb8 => ?_) (fun hb8 => ?_)))
 · have hM := cT hb8 hM
   refine SW.region <| mv rfl <| it rfl rfl rfl <| sn rfl <| R.done ?_
   exact hJ0 (IntKind.wrap .i64 (p_1 + 1)) _ _ F_0 rfl rfl rfl hM
 · have hM := cF hb8 hM
   refine SW.skip ?_
   exact hJ0 p_1 _ _ F_0 rfl rfl rfl hM

end Go.Am
