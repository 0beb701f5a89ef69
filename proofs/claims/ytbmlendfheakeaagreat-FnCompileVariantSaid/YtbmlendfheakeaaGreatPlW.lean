/-
  Plain Lean: the law of FnCompileVariant.
-/
import Derived.Test.YtbmlendfheakeaaGreatPlQ
import Derived.Test.YtbmlendfheakeaaGreatPlF
namespace Go.Am
open Go.Proofs
set_option linter.unusedVariables false

theorem codeLen {c : SClause} (h : clauseOk c = true) : (codeC c).length ≤ 1000000 := by
  obtain ⟨_, h2, h3, h4, h5, h6, h7⟩ := clause_parts h
  have hne := nodes_eq c.head
  obtain ⟨k1, k2⟩ := Sb.headAs c.head.kids (p := (start, [])) (k := 4) 0 ⟨by simp [start], by simp [start], by simp [start]⟩
  simp only [pq] at k2
  have hb := Sb.goalsC c.body (Sb.headQ (headAs c.head.kids 0 (start, [])).2 k1)
  have hnl : ∀ l' : List STerm, (∀ g ∈ l', nodes g ≤ 120) → nodesL l' ≤ 120 * l'.length := by
    intro l'
    induction l' with
    | nil => intro _; simp [nodesL]
    | cons t ts ih => intro h; have h1 := h t (by simp); have h2 := ih fun g hg => h g (by simp [hg]); simp only [nodesL, List.length_cons]; omega
  have h8 := hnl c.body fun g hg => (goal_parts (h7 g hg)).1
  have h9 := (hb.emit ⟨14, 0, 0, noName⟩).1
  have : codeC c = (CS.emit (c.body.foldl goalC (headQ (headAs c.head.kids 0 (start, [])).2 (headAs c.head.kids 0 (start, [])).1)) ⟨14, 0, 0, noName⟩).code := rfl
  rw [this]
  omega

theorem compC_i (c : SClause) (hs : smC 1000 c = true) : TT (fun f _ => M_i_CompileClause f c) (fun r => r = if clauseOk c = true then (codeC c, true) else ([], false)) := by
  unfold M_i_CompileClause
  refine TT.bind (clause_i c hs) fun z hz => ?_
  subst hz
  refine TT.cond (fun h => TT.pure ?_) fun h => ?_
  · rw [if_neg (by simpa using h)]
  · have hc : clauseOk c = true := by simpa using h
    simp only [hc, if_true]
    exact TT.bind (compile_i c hc) fun z hz => TT.pure (by rw [hz])
theorem compC_s (c : SClause) (hs : smC 1000 c = true) : TT (fun f _ => M_s_CompileClause f c) (fun r => r = if clauseOk c = true then (codeC c, true) else ([], false)) := by
  unfold M_s_CompileClause
  refine TT.bind (clause_s c hs) fun z hz => ?_
  subst hz
  refine TT.cond (fun h => TT.pure ?_) fun h => ?_
  · rw [if_neg (by simpa using h)]
  · have hc : clauseOk c = true := by simpa using h
    simp only [hc, if_true]
    exact TT.bind (compile_s c hc) fun z hz => TT.pure (by rw [hz])

theorem variant_ok (code : List Int) (hb : Bytes code) : TT (fun f _ => M_w_FnCompileVariant f code) (· = true) := by
  unfold M_w_FnCompileVariant jn
  refine TT.cond (fun _ => TT.pure rfl) fun _ => TT.bind (drawRen_ok code hb) fun c hc => TT.bind (renumber_i c hc) fun r hr => TT.bind (compC_i c hc) fun a ha => ?_
  subst ha
  by_cases h : clauseOk c = true
  · simp only [h, if_true] at hr ⊢
    obtain ⟨us, hu, v1, v2, rfl⟩ := hr
    have hlen := hu.len
    have hinj : ∀ x y, x ∈ us → y ∈ us → (idx · us) x = (idx · us) y → x = y := fun x y hx hy e => idx_inj hx hy e
    have hr : ∀ x, x ∈ us → 0 ≤ (idx · us) x ∧ (idx · us) x ≤ 25 := fun x hx => by
      have := idx_lt hx
      have := (idx_mem hx).1
      simp only; omega
    have hok := mv_clause hr h v1 v2
    obtain ⟨⟨d, hd⟩, _, _, _, _, _, h7⟩ := clause_parts h
    have hsame := code_same hinj ⟨v1, d, hd⟩ fun t ht => ⟨v2 t ht, _, (goal_parts (h7 t ht)).2⟩
    have hcl := codeLen h
    refine TT.bind (compC_i _ (mapC_sm hc)) fun b hb' => TT.bind (compC_s c hc) fun s hs => ?_
    subst hb'; subst hs
    simp only [hok, h, if_true, hsame]
    refine TT.cf (by simp) (TT.bind (pgCode_eq _ hcl) fun z hz => ?_)
    subst hz
    exact TT.cf (by simp) (TT.cf (by simp) (TT.bind (pgCode_eq _ hcl) fun z hz => TT.pure hz))
  · simp only [h] at hr ⊢
    subst hr
    have hz : clauseOk (⟨⟨0, 0, noName, []⟩, []⟩ : SClause) = false := by rfl
    refine TT.bind (compC_i _ rfl) fun b hb' => TT.bind (compC_s c hc) fun s hs => ?_
    subst hb'; subst hs
    simp only [hz, h]
    refine TT.cf (by simp) (TT.bind (pgCode_eq [] (by simp)) fun z hz => ?_)
    subst hz
    exact TT.cf (by simp) (TT.ct (by simp) (TT.ct (by simp) (TT.bind (pgCode_eq [] (by simp)) fun z hz => TT.pure hz)))

end Go.Am
