/-
  Plain Lean: goals and clauses that are valid; lists of instructions, compared.
-/
import Derived.Test.YtbmlendfheakeaaGreatPlV
namespace Go.Am
open Go.Proofs
set_option linter.unusedVariables false

def oplO (s : ByteArray) : Option Int := M_s_l2Level 0 s
def opl (s : ByteArray) : Int := match oplO s with | some v => v | none => 0
theorem opl_some (s : ByteArray) : ∃ v, oplO s = some v ∧ 0 ≤ v := by
  unfold oplO M_s_l2Level jn
  generalize decide (s = (⟨#[61]⟩ : ByteArray)) = b1
  generalize decide (s = (⟨#[92, 61]⟩ : ByteArray)) = b2
  generalize decide (s = (⟨#[61, 61]⟩ : ByteArray)) = b3
  generalize decide (s = (⟨#[60]⟩ : ByteArray)) = b4
  generalize decide (s = (⟨#[62]⟩ : ByteArray)) = b5
  generalize decide (s = (⟨#[61, 60]⟩ : ByteArray)) = b6
  generalize decide (s = (⟨#[62, 61]⟩ : ByteArray)) = b7
  generalize decide (s = (⟨#[61, 58, 61]⟩ : ByteArray)) = b8
  generalize decide (s = (⟨#[105, 115]⟩ : ByteArray)) = b9
  generalize decide (s = (⟨#[43]⟩ : ByteArray)) = c1
  generalize decide (s = (⟨#[45]⟩ : ByteArray)) = c2
  generalize decide (s = (⟨#[42]⟩ : ByteArray)) = d1
  generalize decide (s = (⟨#[47, 47]⟩ : ByteArray)) = d2
  generalize decide (s = (⟨#[109, 111, 100]⟩ : ByteArray)) = d3
  cases b1 <;> try exact ⟨3, rfl, by decide⟩
  cases b2 <;> try exact ⟨3, rfl, by decide⟩
  cases b3 <;> try exact ⟨3, rfl, by decide⟩
  cases b4 <;> try exact ⟨3, rfl, by decide⟩
  cases b5 <;> try exact ⟨3, rfl, by decide⟩
  cases b6 <;> try exact ⟨3, rfl, by decide⟩
  cases b7 <;> try exact ⟨3, rfl, by decide⟩
  cases b8 <;> try exact ⟨3, rfl, by decide⟩
  cases b9 <;> try exact ⟨3, rfl, by decide⟩
  cases c1 <;> try exact ⟨2, rfl, by decide⟩
  cases c2 <;> try exact ⟨2, rfl, by decide⟩
  cases d1 <;> try exact ⟨1, rfl, by decide⟩
  cases d2 <;> try exact ⟨1, rfl, by decide⟩
  cases d3 <;> first | exact ⟨1, rfl, by decide⟩ | exact ⟨0, rfl, by decide⟩
theorem level_i0 (s : ByteArray) : (M_i_OpLevel 0 s).map Prod.fst = oplO s := by
  unfold oplO M_s_l2Level M_i_OpLevel jn
  generalize decide (s = (⟨#[61]⟩ : ByteArray)) = b1
  generalize decide (s = (⟨#[92, 61]⟩ : ByteArray)) = b2
  generalize decide (s = (⟨#[61, 61]⟩ : ByteArray)) = b3
  generalize decide (s = (⟨#[60]⟩ : ByteArray)) = b4
  generalize decide (s = (⟨#[62]⟩ : ByteArray)) = b5
  generalize decide (s = (⟨#[61, 60]⟩ : ByteArray)) = b6
  generalize decide (s = (⟨#[62, 61]⟩ : ByteArray)) = b7
  generalize decide (s = (⟨#[61, 58, 61]⟩ : ByteArray)) = b8
  generalize decide (s = (⟨#[105, 115]⟩ : ByteArray)) = b9
  generalize decide (s = (⟨#[43]⟩ : ByteArray)) = c1
  generalize decide (s = (⟨#[45]⟩ : ByteArray)) = c2
  generalize decide (s = (⟨#[42]⟩ : ByteArray)) = d1
  generalize decide (s = (⟨#[47, 47]⟩ : ByteArray)) = d2
  generalize decide (s = (⟨#[109, 111, 100]⟩ : ByteArray)) = d3
  cases b1 <;> try rfl
  cases b2 <;> try rfl
  cases b3 <;> try rfl
  cases b4 <;> try rfl
  cases b5 <;> try rfl
  cases b6 <;> try rfl
  cases b7 <;> try rfl
  cases b8 <;> try rfl
  cases b9 <;> try rfl
  cases c1 <;> try rfl
  cases c2 <;> try rfl
  cases d1 <;> try rfl
  cases d2 <;> try rfl
  cases d3 <;> rfl
theorem level_s (f : Nat) (s : ByteArray) : M_s_l2Level f s = some (opl s) := by
  obtain ⟨v, hv, _⟩ := opl_some s
  have : M_s_l2Level f s = oplO s := rfl
  rw [this, opl, hv]
theorem opl_nonneg (s : ByteArray) : 0 ≤ opl s := by
  obtain ⟨v, hv, h⟩ := opl_some s
  rw [opl, hv]; exact h
theorem isOp_i (f : Nat) (s : ByteArray) : M_i_isOp f s = some (decide (0 < opl s)) := by
  obtain ⟨v, hv, _⟩ := opl_some s
  have h0 := level_i0 s
  rw [hv] at h0
  unfold M_i_isOp
  have : M_i_OpLevel f s = M_i_OpLevel 0 s := rfl
  rw [this]
  cases hm : M_i_OpLevel 0 s with
  | none => rw [hm] at h0; cases h0
  | some r =>
    rw [hm] at h0
    simp only [Option.map_some, Option.some.injEq] at h0
    simp only [Option.bind_some, opl, hv, h0]

def buiO (s : ByteArray) (n : Int) : Option Bool := M_s_IsBuiltin 0 s n
def bui (s : ByteArray) (n : Int) : Bool := match buiO s n with | some v => v | none => false
theorem bui_some (s : ByteArray) (n : Int) : ∃ v, buiO s n = some v := by
  unfold buiO M_s_IsBuiltin jn
  generalize decide (s = (⟨#[61]⟩ : ByteArray)) = b1
  generalize decide (s = (⟨#[92, 61]⟩ : ByteArray)) = b2
  generalize decide (s = (⟨#[61, 61]⟩ : ByteArray)) = b3
  generalize decide (s = (⟨#[60]⟩ : ByteArray)) = b4
  generalize decide (s = (⟨#[62]⟩ : ByteArray)) = b5
  generalize decide (s = (⟨#[61, 60]⟩ : ByteArray)) = b6
  generalize decide (s = (⟨#[62, 61]⟩ : ByteArray)) = b7
  generalize decide (s = (⟨#[61, 58, 61]⟩ : ByteArray)) = b8
  generalize decide (s = (⟨#[105, 115]⟩ : ByteArray)) = b9
  generalize decide (s = (⟨#[116, 114, 117, 101]⟩ : ByteArray)) = c1
  generalize decide (s = (⟨#[102, 97, 105, 108]⟩ : ByteArray)) = c2
  generalize decide (s = (⟨#[118, 97, 114]⟩ : ByteArray)) = d1
  generalize decide (s = (⟨#[110, 111, 110, 118, 97, 114]⟩ : ByteArray)) = d2
  generalize decide (s = (⟨#[97, 116, 111, 109]⟩ : ByteArray)) = d3
  generalize decide (s = (⟨#[105, 110, 116]⟩ : ByteArray)) = d4
  generalize decide (s = (⟨#[97, 114, 103]⟩ : ByteArray)) = d5
  cases b1 <;> try exact ⟨_, rfl⟩
  cases b2 <;> try exact ⟨_, rfl⟩
  cases b3 <;> try exact ⟨_, rfl⟩
  cases b4 <;> try exact ⟨_, rfl⟩
  cases b5 <;> try exact ⟨_, rfl⟩
  cases b6 <;> try exact ⟨_, rfl⟩
  cases b7 <;> try exact ⟨_, rfl⟩
  cases b8 <;> try exact ⟨_, rfl⟩
  cases b9 <;> try exact ⟨_, rfl⟩
  cases c1 <;> try exact ⟨_, rfl⟩
  cases c2 <;> try exact ⟨_, rfl⟩
  cases d1 <;> try exact ⟨_, rfl⟩
  cases d2 <;> try exact ⟨_, rfl⟩
  cases d3 <;> try exact ⟨_, rfl⟩
  cases d4 <;> try exact ⟨_, rfl⟩
  cases d5 <;> exact ⟨_, rfl⟩
theorem bui_s (f : Nat) (s : ByteArray) (n : Int) : M_s_IsBuiltin f s n = some (bui s n) := by
  obtain ⟨v, hv⟩ := bui_some s n
  have : M_s_IsBuiltin f s n = buiO s n := rfl
  rw [this, bui, hv]
theorem bui_i (f : Nat) (s : ByteArray) (n : Int) : M_i_IsBuiltin f s n = some (bui s n) := bui_s f s n

def isBuiltT (t : STerm) : Bool := (t.kind == 3) && bui t.name (t.kids.length : Int)
def isPlainT (t : STerm) : Bool := (t.kind == 3) && (isWord t.name && ((opl t.name == 0) && !bui t.name (t.kids.length : Int)))
def isCutT (t : STerm) : Bool := (t.kind == 3) && (decide (t.name = (⟨#[33]⟩ : ByteArray)) && ((t.kids.length : Int) == 0))
def goalOk (t : STerm) : Bool := termOk t && (isCutT t || isPlainT t || isBuiltT t)
def clauseOk (c : SClause) : Bool := termOk c.head && isPlainT c.head && decide (c.body.length ≤ 6) && c.body.all goalOk

theorem built_i (f : Nat) (t : STerm) : M_i_isBuilt f t = some (isBuiltT t) := by
  unfold M_i_isBuilt jn isBuiltT
  cases t.kind == 3 <;> simp [bui_i]
theorem cut_i (f : Nat) (t : STerm) : M_i_isCut f t = some (isCutT t) := by
  unfold M_i_isCut M_i_isAtom jn isCutT
  cases t.kind == 3 <;> cases (t.kids.length : Int) == 0 <;> simp
theorem cut_s (f : Nat) (t : STerm) : M_s_l4Cut f t = some (isCutT t) := by
  unfold M_s_l4Cut jn isCutT
  cases t.kind == 3 <;> cases decide (t.name = (⟨#[33]⟩ : ByteArray)) <;> simp
theorem plain_i (t : STerm) (h : t.name.size ≤ 1000) : TT (fun f _ => M_i_isPlain f t) (· = isPlainT t) := by
  unfold M_i_isPlain jn
  refine TT.cond (fun h1 => TT.bind (word_i _ h) fun z hz => ?_) fun h1 => TT.pure (by simp [isPlainT, h1])
  subst hz
  refine TT.cond (fun h2 => TT.bind (TT.any (fun f _ => isOp_i f _) rfl) fun z hz => ?_) fun h2 => TT.pure (by simp [isPlainT, h2])
  subst hz
  have := opl_nonneg t.name
  refine TT.cond (fun h3 => TT.bind (TT.any (fun f _ => built_i f _) rfl) fun z hz => TT.pure ?_) fun h3 => TT.pure ?_
  · subst hz
    have h3' : opl t.name = 0 := by simp at h3; omega
    simp [isPlainT, isBuiltT, h1, h2, h3']
  · have h3' : ¬ opl t.name = 0 := by simp at h3; omega
    simp [isPlainT, h3']
theorem plain_s (t : STerm) (h : t.name.size ≤ 1000) : TT (fun f _ => M_s_l4Plain f t) (· = isPlainT t) := by
  unfold M_s_l4Plain jn
  refine TT.cond (fun h1 => TT.bind (word_s _ h) fun z hz => ?_) fun h1 => TT.pure (by simp [isPlainT, h1])
  subst hz
  refine TT.cond (fun h2 => TT.bind (TT.any (fun f _ => bui_s f _ _) rfl) fun z hz => ?_) fun h2 => TT.pure (by simp [isPlainT, h2])
  subst hz
  refine TT.cond (fun h3 => TT.bind (TT.any (fun f _ => level_s f _) rfl) fun z hz => TT.pure ?_) fun h3 => TT.pure ?_
  · subst hz
    have h3' : bui t.name (t.kids.length : Int) = false := by simpa using h3
    simp [isPlainT, h1, h2, h3']
  · have h3' : bui t.name (t.kids.length : Int) = true := by simpa using h3
    simp [isPlainT, h3']
theorem goal_i (t : STerm) (h : smT t = true) : TT (fun f _ => M_i_GoalValid f t) (· = goalOk t) := by
  have hn := ((smT_iff t).1 h).1
  unfold M_i_GoalValid jn
  refine TT.bind (term_i t h) fun z hz => ?_
  subst hz
  refine TT.cond (fun h1 => TT.bind (plain_i t hn) fun z hz => ?_) fun h1 => TT.pure (by simp [goalOk, h1])
  subst hz
  refine TT.cond (fun h2 => TT.pure (by simp [goalOk, h1, h2])) fun h2 => TT.bind (TT.any (fun f _ => built_i f _) rfl) fun z hz => ?_
  subst hz
  refine TT.cond (fun h3 => TT.pure (by simp [goalOk, h1, h3])) fun h3 => TT.bind (TT.any (fun f _ => cut_i f _) rfl) fun z hz => TT.pure ?_
  subst hz
  simp [goalOk, h1, h2, h3]
theorem goal_s (t : STerm) (h : smT t = true) : TT (fun f _ => M_s_GoalValid f t) (· = goalOk t) := by
  have hn := ((smT_iff t).1 h).1
  unfold M_s_GoalValid jn
  refine TT.bind (term_s t h) fun z hz => ?_
  subst hz
  refine TT.cond (fun h1 => ?_) fun h1 => TT.pure (by simp [goalOk, h1])
  refine TT.bind (P := (· = (isCutT t || isPlainT t || isBuiltT t))) ?_ fun z hz => TT.pure (by simp [goalOk, h1, hz])
  unfold M_s_l4Goal jn
  refine TT.bind (TT.any (fun f _ => cut_s f _) rfl) fun z hz => ?_
  subst hz
  refine TT.cond (fun h2 => TT.pure (by simp [h2])) fun h2 => TT.bind (plain_s t hn) fun z hz => ?_
  subst hz
  refine TT.cond (fun h3 => TT.pure (by simp [h3])) fun h3 => TT.cond (fun h4 => TT.bind (TT.any (fun f _ => bui_s f _ _) rfl) fun z hz => TT.pure ?_) fun h4 => TT.pure ?_
  · subst hz; simp [h2, h3, isBuiltT, h4]
  · simp [h2, h3, isBuiltT, h4]

theorem goals_i (l : List STerm) (hl : l.length ≤ 1000) (h : ∀ t ∈ l, smT t = true) : TT (fun f _ => M_i_goalsValid f l) (· = (decide (l.length ≤ 6) && l.all goalOk)) := by
  unfold M_i_goalsValid jn
  refine TT.cond (fun h1 => ?_) fun h1 => TT.pure ?_
  · have h6 : l.length ≤ 6 := by simp at h1; omega
    refine TT.bind (P := (· = !l.all goalOk)) ?_ fun z hz => TT.pure (by simp [hz, h6])
    unfold M_ContainsFunc_Term__i_goalsValid_1
    refine TT.bind (P := fun r => decide (0 ≤ r) = !l.all goalOk) ?_ fun r hr => TT.pure hr
    unfold M_IndexFunc_Term__i_goalsValid_1 jn
    refine TT.loop (L := fun f n => L_IndexFunc_Term__i_goalsValid_1_1 f l _ n 0) (TT.for (L := fun f n i => L_IndexFunc_Term__i_goalsValid_1_1 f l _ n i) l.length (by omega) (fun i => ∀ j, j < i → ∀ x, l[j]? = some x → goalOk x = true) (fun i hi hI k => ?_) (fun hI => ?_) (fun j hj => by omega))
    · simp only [L_IndexFunc_Term__i_goalsValid_1_1]
      obtain ⟨x, hx, hx', hm⟩ := listAt hi
      refine TT.ct (by simp; omega) (TT.guard (by simp) (TT.opt hx (TT.bind (P := (· = !goalOk x)) ?_ fun z hz => ?_)))
      · unfold M_i_goalsValid_1
        exact TT.bind (goal_i x (h x hm)) fun z hz => TT.pure (by rw [hz])
      · subst hz
        refine TT.cond (fun hb => TT.pure ?_) fun hb => ?_
        · have hb' : goalOk x = false := by simpa using hb
          have : l.all goalOk = false := List.all_eq_false.2 ⟨x, hm, by simp [hb']⟩
          rw [this]; simp
        · rw [wrapS hi (by omega)]
          refine k fun j hj y hy => ?_
          by_cases hji : j = i
          · subst hji; rw [hx'] at hy; cases hy; simpa using hb
          · exact hI j (by omega) y hy
    · simp only [L_IndexFunc_Term__i_goalsValid_1_1]
      refine TT.cf (by simp) (TT.pure ?_)
      have : l.all goalOk = true := List.all_eq_true.2 fun x hx => by
        obtain ⟨j, hj⟩ := List.getElem?_of_mem hx
        exact hI j (List.getElem?_eq_some_iff.1 hj).1 x hj
      rw [this]; rfl
  · have h6 : ¬ l.length ≤ 6 := by simp at h1; omega
    simp [h6]

theorem clause_i (c : SClause) (h : smC 1000 c = true) : TT (fun f _ => M_i_ClauseValid f c) (· = clauseOk c) := by
  obtain ⟨h1, h2, h3⟩ := (smC_iff c).1 h
  unfold M_i_ClauseValid jn
  refine TT.bind (term_i _ h1) fun z hz => ?_
  subst hz
  refine TT.cond (fun a => TT.bind (plain_i _ ((smT_iff _).1 h1).1) fun z hz => ?_) fun a => TT.pure (by simp [clauseOk, a])
  subst hz
  refine TT.cond (fun b => TT.bind (goals_i _ h2 h3) fun z hz => TT.pure ?_) fun b => TT.pure (by simp [clauseOk, b])
  subst hz
  simp [clauseOk, a, b]

theorem clause_s (c : SClause) (h : smC 1000 c = true) : TT (fun f _ => M_s_ClauseValid f c) (· = clauseOk c) := by
  obtain ⟨h1, h2, h3⟩ := (smC_iff c).1 h
  unfold M_s_ClauseValid jn
  have rest : (∀ j, j < min c.body.length 7 → ∀ x, c.body[j]? = some x → goalOk x = true) → TT (fun f _ => bif decide ((c.body.length : Int) ≤ 6) then (Option.bind (M_s_TermValid f c.head) fun z1 => bif z1 then (Option.bind (M_s_l4Plain f c.head) fun z2 => some z2) else some false) else some false) (· = clauseOk c) := fun hI => by
    refine TT.cond (fun a => ?_) fun a => TT.pure ?_
    · have h6 : c.body.length ≤ 6 := by simp at a; omega
      have hall : c.body.all goalOk = true := List.all_eq_true.2 fun x hx => by
        obtain ⟨j, hj⟩ := List.getElem?_of_mem hx
        have := (List.getElem?_eq_some_iff.1 hj).1
        exact hI j (by omega) x hj
      refine TT.bind (term_s _ h1) fun z hz => ?_
      subst hz
      refine TT.cond (fun b => TT.bind (plain_s _ ((smT_iff _).1 h1).1) fun z hz => TT.pure ?_) fun b => TT.pure (by simp [clauseOk, b])
      subst hz
      simp [clauseOk, b, h6, hall]
    · have h6 : ¬ c.body.length ≤ 6 := by simp at a; omega
      simp [clauseOk, h6]
  refine TT.loop (L := fun f n => L_s_ClauseValid_1 f c _ n 0) (TT.for (L := fun f n i => L_s_ClauseValid_1 f c _ n i) (min c.body.length 7) (by omega) (fun i => ∀ j, j < i → ∀ x, c.body[j]? = some x → goalOk x = true) (fun i hi hI k => ?_) (fun hI => ?_) (fun j hj => by omega))
  · simp only [L_s_ClauseValid_1, jn]
    obtain ⟨x, hx, hx', hm⟩ := listAt (show i < c.body.length by omega)
    refine TT.ct (by simp; omega) (TT.ct (by simp; omega) (TT.guard (by simp) (TT.opt hx (TT.bind (goal_s x (h3 x hm)) fun z hz => ?_))))
    subst hz
    refine TT.cond (fun hb => TT.pure ?_) fun hb => ?_
    · have hb' : goalOk x = false := by simpa using hb
      have : c.body.all goalOk = false := List.all_eq_false.2 ⟨x, hm, by simp [hb']⟩
      simp [clauseOk, this]
    · rw [wrapS hi (by omega)]
      refine k fun j hj y hy => ?_
      by_cases hji : j = i
      · subst hji; rw [hx'] at hy; cases hy; simpa using hb
      · exact hI j (by omega) y hy
  · simp only [L_s_ClauseValid_1, jn]
    refine TT.cond (fun a => ?_) fun a => TT.cf rfl (rest hI)
    have : ¬ (((min c.body.length 7 : Nat) : Int) ≤ 6) := by simp at a; omega
    exact TT.cf (by simpa using this) (rest hI)

theorem pgCode_eq (a : List SInstr) (ha : a.length ≤ 1000000) : TT (fun f _ => M_w_pgCode f a a) (· = true) := by
  unfold M_w_pgCode jn
  refine TT.cf (by simp) (TT.loop (L := fun f n => L_w_pgCode_1 a a _ n 0) (TT.for (L := fun f n i => L_w_pgCode_1 a a _ n i) a.length (by omega) (fun _ => True) (fun i hi hI k => ?_) (fun hI => ?_) trivial))
  · simp only [L_w_pgCode_1]
    obtain ⟨x, hx, hx', hm⟩ := listAt hi
    refine TT.ct (by simp; omega) (TT.guard (by simp) (TT.opt hx (TT.opt hx (TT.cf (by simp) ?_))))
    rw [wrapS hi (by omega)]
    exact k trivial
  · simp only [L_w_pgCode_1]
    exact TT.cf (by simp) (TT.pure rfl)

end Go.Am
