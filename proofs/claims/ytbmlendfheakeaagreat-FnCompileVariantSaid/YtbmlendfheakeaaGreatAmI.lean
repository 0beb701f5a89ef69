/-
  What an operation looks at, and what it leaves alone: operations that do not look at each other may change places.
-/
import Derived.Test.YtbmlendfheakeaaGreatAmH
namespace Go.Am

variable {P : Program} {env env' : Env} {σ : St}

theorem opds_congr : ∀ {xs : List Operand}, (∀ x ∈ xs, opd env x = opd env' x) → opds env xs = opds env' xs
  | [], _ => rfl
  | x :: xs, h => by
    have ih := opds_congr (xs := xs) fun y hy => h y (List.mem_cons_of_mem _ hy)
    simp only [opds, h x (by simp), ih]

theorem parts_congr : ∀ {xs : List (Nat × Operand)}, (∀ x ∈ xs.map Prod.snd, opd env x = opd env' x) → parts env xs = parts env' xs
  | [], _ => rfl
  | (i, x) :: xs, h => by
    have ih := parts_congr (xs := xs) fun y hy => h y (by simp only [List.map_cons, List.mem_cons]; exact .inr hy)
    simp only [parts, h x (by simp), ih]

theorem opdO_congr {x : Option Operand} (h : ∀ y, x = some y → opd env y = opd env' y) : opdO env x = opdO env' x := by
  cases x with
  | none => rfl
  | some y => simp only [opdO, h y rfl]

theorem rd_congr {op : Op} (h : ∀ x ∈ op.operands.toList, opd env x = opd env' x) : rd P env σ op = rd P env' σ op := by
  cases op
  case move x => simp only [rd]; exact h x (by simp [Op.operands])
  case assign x => simp only [rd]; exact h x (by simp [Op.operands])
  case pick c x y => simp only [rd]; rw [h c (by simp [Op.operands]), h x (by simp [Op.operands]), h y (by simp [Op.operands])]
  case nilCheck x => simp only [rd]; rw [h x (by simp [Op.operands])]
  case binOp op t x y u => simp only [rd]; rw [h x (by simp [Op.operands]), h y (by simp [Op.operands])]
  case unOp op t x => simp only [rd]; rw [h x (by simp [Op.operands])]
  case convert s d x => simp only [rd]; rw [h x (by simp [Op.operands])]
  case field t x f => simp only [rd]; rw [h x (by simp [Op.operands])]
  case fieldAddr t x f => simp only [rd]; rw [h x (by simp [Op.operands])]
  case indexAddr t x i => simp only [rd]; rw [h x (by simp [Op.operands]), h i (by simp [Op.operands])]
  case index t x i => simp only [rd]; rw [h x (by simp [Op.operands]), h i (by simp [Op.operands])]
  case load t x => simp only [rd]; rw [h x (by simp [Op.operands])]
  case extract x i => simp only [rd]; rw [h x (by simp [Op.operands])]
  case lookup t m k ok => simp only [rd]; rw [h m (by simp [Op.operands]), h k (by simp [Op.operands])]
  case slice t x lo hi mx =>
    simp only [rd]
    rw [h x (by simp [Op.operands]), opdO_congr (x := lo) fun y hy => h y (by subst hy; simp [Op.operands]), opdO_congr (x := hi) fun y hy => h y (by subst hy; simp [Op.operands]),
      opdO_congr (x := mx) fun y hy => h y (by subst hy; simp [Op.operands])]
  case build t ps =>
    simp only [rd]
    rw [parts_congr (xs := ps.toList) fun x hx => h x (by simpa [Op.operands] using hx)]
  case makeFunc fn first captured =>
    cases fn <;> simp only [rd]
    rw [opds_congr (xs := captured.toList) fun x hx => h x (by simp [Op.operands] at hx ⊢; exact .inr hx)]
  case call c =>
    obtain ⟨callee, args, argTypes⟩ := c
    have ha : ∀ x ∈ args.toList, opd env x = opd env' x := fun x hx => h x (by cases callee <;> simp [Op.operands, Call.operands] at hx ⊢ <;> first | exact hx | exact .inr hx)
    cases callee with
    | value f => simp only [rd]
    | invoke r m => simp only [rd]
    | builtin b =>
      cases b <;> simp only [rd]
      · split
        · rename_i x t hx _; rw [ha x (by rw [hx]; simp)]
        · rfl
      · split
        · rename_i x y hx; rw [ha x (by rw [hx]; simp), ha y (by rw [hx]; simp)]
        · rfl
      · split
        · rename_i x y hx; rw [ha x (by rw [hx]; simp), ha y (by rw [hx]; simp)]
        · rfl
  all_goals simp only [rd]

theorem act_congr {op : Op} {K : AV → St → Prop} (h : ∀ x ∈ op.operands.toList, opd env x = opd env' x) : act P env σ op K = act P env' σ op K := by
  have viaRd : ∀ q : Op, q = op → (match rd P env σ q with | some v => K v σ | none => False) = (match rd P env' σ q with | some v => K v σ | none => False) := fun q hq => by
    subst hq; rw [rd_congr h]
  cases op
  case alloc t => simp only [act]
  case box t x => simp only [act]; rw [h x (by simp [Op.operands])]
  case makeMap t r => cases r with
    | none => simp only [act]
    | some r => exact viaRd _ rfl
  case makeSlice t l c => simp only [act]; rw [h l (by simp [Op.operands]), h c (by simp [Op.operands])]
  case buildSlice t len ps =>
    simp only [act, bsv]
    rw [parts_congr (xs := ps.toList) fun x hx => h x (by simpa [Op.operands] using hx)]
  case store t x y => simp only [act]; rw [h x (by simp [Op.operands]), h y (by simp [Op.operands])]
  case mapUpdate t m k x => simp only [act]; rw [h m (by simp [Op.operands]), h k (by simp [Op.operands]), h x (by simp [Op.operands])]
  case call c =>
    obtain ⟨callee, args, argTypes⟩ := c
    have ha : ∀ x ∈ args.toList, opd env x = opd env' x := fun x hx => h x (by cases callee <;> simp [Op.operands, Call.operands] at hx ⊢ <;> first | exact hx | exact .inr hx)
    cases callee with
    | value f => simp only [act]; rw [h f (by simp [Op.operands, Call.operands]), opds_congr ha]
    | invoke r m => exact viaRd _ rfl
    | builtin b =>
      cases b <;> first | exact viaRd _ rfl | skip
      · simp only [act]
        split
        · rename_i s x t u hx _; rw [ha s (by rw [hx]; simp), ha x (by rw [hx]; simp)]
        · rfl
      · simp only [act]
        split
        · rename_i m k t r hx _; rw [ha m (by rw [hx]; simp), ha k (by rw [hx]; simp)]
        · rfl
  all_goals exact viaRd _ rfl

theorem act_mono {op : Op} {K K' : AV → St → Prop} (hk : ∀ v σ', K v σ' → K' v σ') (h : act P env σ op K) : act P env σ op K' := by
  have viaRd : ∀ q : Op, (match rd P env σ q with | some v => K v σ | none => False) → (match rd P env σ q with | some v => K' v σ | none => False) := fun q hq => by
    split at hq
    · exact hk _ _ hq
    · exact hq.elim
  cases op
  case alloc t =>
    simp only [act] at h ⊢
    split at h
    · exact fun id hid => hk _ _ (h id hid)
    · exact h.elim
  case box t x =>
    simp only [act] at h ⊢
    split at h
    · exact ⟨h.1, fun id hid => hk _ _ (h.2 id hid)⟩
    · exact h.elim
  case makeMap t r => cases r with
    | none => simp only [act] at h ⊢; exact fun id hid => hk _ _ (h id hid)
    | some r => exact viaRd (.makeMap t (some r)) h
  case makeSlice t l c =>
    simp only [act] at h ⊢
    split at h
    · split at h
      · obtain ⟨a1, a2, a3, a4, a5, a6, a7⟩ := h
        exact ⟨a1, a2, a3, a4, a5, a6, fun id hid => hk _ _ (a7 id hid)⟩
      · exact h.elim
    · exact h.elim
  case buildSlice t len ps =>
    simp only [act] at h ⊢
    split at h
    · exact hk _ _ h
    · exact h.elim
  case store t x y =>
    simp only [act] at h ⊢
    split at h
    · split at h
      · obtain ⟨a1, a2, a3, a4⟩ := h
        exact ⟨a1, a2, a3, hk _ _ a4⟩
      · exact h.elim
    · exact h.elim
  case mapUpdate t m k x =>
    simp only [act] at h ⊢
    split at h
    · split at h
      · obtain ⟨a1, a2, a3⟩ := h
        exact ⟨a1, a2, hk _ _ a3⟩
      · exact h.elim
    · exact h.elim
  case call c =>
    obtain ⟨callee, args, argTypes⟩ := c
    cases callee with
    | value f =>
      simp only [act] at h ⊢
      split at h
      · exact h.mono hk
      · exact h.elim
    | invoke r m => exact viaRd (.call { callee := .invoke r m, args := args, argTypes := argTypes }) h
    | builtin b =>
      cases b
      case append =>
        simp only [act] at h ⊢
        split at h
        · split at h
          · split at h
            · split at h
              · obtain ⟨a1, a2, a3, a4, a5, a6, a7⟩ := h
                exact ⟨a1, a2, a3, a4, a5, fun hd => hk _ _ (a6 hd), fun hd => (a7 hd).imp (fun q => ⟨q.1, fun id hid => hk _ _ (q.2 id hid)⟩) (fun q => ⟨q.1, fun id cap hid hc => hk _ _ (q.2 id cap hid hc)⟩)⟩
              · exact h.elim
            · exact h.elim
          · exact h.elim
        · exact h.elim
      case delete =>
        simp only [act] at h ⊢
        split at h
        · split at h
          · split at h
            · obtain ⟨a1, a2, a3⟩ := h
              exact ⟨a1, a2, hk _ _ a3⟩
            · exact h.elim
          · exact h.elim
        · exact h.elim
      all_goals
        simp only [act] at h ⊢
        split at h
        · exact hk _ _ h
        · exact h.elim
  all_goals
    simp only [act] at h ⊢
    split at h
    · exact hk _ _ h
    · exact h.elim

theorem actX_mono {P : Program} {env : Env} {σ : St} {o : Op} {K K' : AV → St → Prop} (hk : ∀ v s, K v s → K' v s) (h : actX P env σ o K) : actX P env σ o K' := by
  rcases h with h | ⟨t, x, lo, ti, te, e, s, es, tk, k, n, h1, h2, h3, h4, h5, h6, h7, h8, h9, h10, h11⟩
  · exact .inl (act_mono hk h)
  · refine .inr ⟨t, x, lo, ti, te, e, s, es, tk, k, n, h1, h2, h3, h4, h5, h6, h7, h8, h9, h10, ?_⟩
    rcases h11 with ⟨q1, q2⟩ | ⟨i, q1, q2, q3, q4⟩
    · exact .inl ⟨q1, hk _ _ q2⟩
    · exact .inr ⟨i, q1, q2, hk _ _ q3, fun j hj => hk _ _ (q4 j hj)⟩

/-- A thing of the store that a call is not told of is there behind it as it was. -/
theorem AC.frame {f : FuncId} {args : List AV} {K : AV → St → Prop} {id : Nat} {ob : AObj} (h : AC P f args σ K) (hid : σ id = none) :
    AC P f args (σ.set id (some ob)) fun v σ2 => ∃ σ1 : St, σ1 id = none ∧ σ2 = σ1.set id (some ob) ∧ K v σ1 := by
  refine ⟨h.1, fun Γ w cargs ha hr => ?_⟩
  have hsub : ∀ j o, σ j = some o → (σ.set id (some ob)) j = some o := fun j o hj => by
    have hne : j ≠ id := fun hh => by subst hh; rw [hid] at hj; cases hj
    rw [St.set_ne _ _ hne]; exact hj
  refine (h.2 Γ w cargs ha (hr.weaken hsub)).mono fun e w' ⟨cv, v, σ1, Γ', he, hs, hv, hK⟩ => ?_
  obtain ⟨l, hl, hor⟩ := hr.obj id ob (St.set_same _ _ _)
  have hlow := hr.low id l hl
  have hnot : ¬ Owned Γ σ l.1 := by
    rintro ⟨j, k, h1, h2, h3⟩
    have hne : j ≠ id := fun hh => by subst hh; exact h1 hid
    exact hne (hr.inj j id k l (by rw [St.set_ne _ _ hne]; exact h1) (by rw [St.set_same]; simp) h2 hl h3)
  have hblk := hs.pres l.1 hlow hnot
  have hl' := hs.ext.loc id l hl
  have him := fun i => hs.imo l.1 i hlow hnot
  have hnot' : ¬ Owned Γ' σ1 l.1 := fun ho => by
    rcases hs.own _ ho with h | h
    · exact hnot h
    · omega
  have hσ1 : σ1 id = none := by
    cases hx : σ1 id with
    | none => rfl
    | some o => exact absurd ⟨id, l, by rw [hx]; simp, hl', rfl⟩ hnot'
  refine ⟨cv, v, σ1.set id (some ob), Γ', he, ⟨hs.ext, ⟨hs.rel.im, ?_, ?_, hs.rel.low, hs.rel.few⟩, ?_, ?_, ?_, hs.size, hs.os, hs.tape, hs.output⟩, hv, σ1, hσ1, rfl, hK⟩
  · intro j o hj
    by_cases hji : j = id
    · subst hji
      rw [St.set_same] at hj; cases hj
      refine ⟨l, hl', ObjRel.congr hblk ?_⟩
      cases ob with
      | cells cs =>
        obtain ⟨h0, h1, arr, T, fz, h2, h3, h4, h5, h6⟩ := hor
        exact ⟨h0, fun i => (him i).trans (h1 i), arr, T, fz, h2, h3, h4, h5, VRL.ext hs.ext _ _ h6⟩
      | map es =>
        obtain ⟨h0, h1, ents, c, h2, h3⟩ := hor
        exact ⟨h0, fun i => (him i).trans (h1 i), ents, c, h2, MapRel.ext hs.ext _ _ h3⟩
      | tok n sz =>
        obtain ⟨h1, h3⟩ := hor
        exact ⟨fun i hi => (him i).trans (h1 i hi), h3⟩
    · rw [St.set_ne _ _ hji] at hj; exact hs.rel.obj j o hj
  · intro i j li lj hi hj hli hlj hb
    by_cases h1 : i = id <;> by_cases h2 : j = id
    · rw [h1, h2]
    · subst h1
      rw [hl'] at hli; cases hli
      rw [St.set_ne _ _ h2] at hj
      exact absurd ⟨j, lj, hj, hlj, hb.symm⟩ hnot'
    · subst h2
      rw [hl'] at hlj; cases hlj
      rw [St.set_ne _ _ h1] at hi
      exact absurd ⟨i, li, hi, hli, hb⟩ hnot'
    · rw [St.set_ne _ _ h1] at hi
      rw [St.set_ne _ _ h2] at hj
      exact hs.rel.inj i j li lj hi hj hli hlj hb
  · intro b hb hn
    exact hs.pres b hb fun ho => hn (ho.weaken hsub)
  · intro b i hb hn
    exact hs.imo b i hb fun ho => hn (ho.weaken hsub)
  · rintro b ⟨j, k, h1, h2, h3⟩
    by_cases hji : j = id
    · subst hji
      exact .inl ⟨j, l, by rw [St.set_same]; simp, hl, by rw [hl'] at h2; cases h2; exact h3⟩
    · rw [St.set_ne _ _ hji] at h1
      rcases hs.own b ⟨j, k, h1, h2, h3⟩ with h | h
      · exact .inl (h.weaken hsub)
      · exact .inr h

end Go.Am
