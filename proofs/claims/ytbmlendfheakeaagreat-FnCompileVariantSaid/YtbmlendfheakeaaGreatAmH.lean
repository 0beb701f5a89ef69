/-
  The abstract machine over code: regions, branches, loops, whole functions.
-/
import Derived.Test.YtbmlendfheakeaaGreatAmG
namespace Go.Am

variable {P : Program}

def guardA (ops : Array Oper) (env : Env) (o : Oper) : Option Bool :=
  match o.guard with
  | none => some true
  | some (j, want) => match (ops[j]?).bind (·.dst) with
    | some d => match env.get d with
      | some (.bool b) => some (b == want)
      | some (.tup []) => some false
      | _ => none
    | none => none

/-- Whatever is the one value in the model is the other too. -/
def Le (u v : AV) : Prop := ∀ (Γ : Gh) (x : Value), VR Γ u x → VR Γ v x

theorem Le.refl (u : AV) : Le u u := fun _ _ h => h

def LeL (us vs : List AV) : Prop := ∀ (Γ : Gh) (xs : List Value), VRL Γ us xs → VRL Γ vs xs

theorem LeL.refl (us : List AV) : LeL us us := fun _ _ h => h
theorem LeL.nil : LeL [] [] := LeL.refl _
theorem LeL.cons {u v : AV} {us vs : List AV} (h : Le u v) (k : LeL us vs) : LeL (u :: us) (v :: vs) := fun Γ xs hx => by
  obtain ⟨y, ys, rfl, h1, h2⟩ := hx.cons_inv
  exact VRL.cons (h Γ y h1) (k Γ ys h2)

/-- What is known of a thing of the store, in other words. -/
def OLe : AObj → AObj → Prop
  | .cells us, .cells vs => LeL us vs
  | o, o' => o = o'

def StLe (σ σ' : St) : Prop := ∀ id o, σ' id = some o → ∃ p, σ id = some p ∧ OLe p o

theorem OLe.refl (o : AObj) : OLe o o := by
  cases o with
  | cells cs => exact LeL.refl cs
  | map es => rfl
  | tok n s => rfl

theorem StLe.refl (σ : St) : StLe σ σ := fun _ o h => ⟨o, h, OLe.refl o⟩
theorem StLe.of_sub {σ σ' : St} (h : ∀ id o, σ' id = some o → σ id = some o) : StLe σ σ' := fun id o ho => ⟨o, h id o ho, OLe.refl o⟩

theorem LeL.len {us vs : List AV} (h : LeL us vs) {Γ : Gh} {xs : List Value} (hx : VRL Γ us xs) : us.length = vs.length := by
  rw [← hx.length, ← (h Γ xs hx).length]

theorem ObjRel.le {Γ : Gh} {w : World} {l : Nat × Nat × Nat} {o o' : AObj} (h : ObjRel Γ w l o) (hl : OLe o o') : ObjRel Γ w l o' := by
  cases o with
  | cells us =>
    cases o' with
    | cells vs =>
      obtain ⟨h1, h2, arr, T, fz, h3, h4, h5, h6, h7⟩ := h
      have hlen := LeL.len hl h7
      exact ⟨h1, h2, arr, T, fz, h3, h4, h5, by rw [← hlen]; exact h6, by rw [← hlen]; exact hl _ _ h7⟩
    | map es => cases hl
    | tok n s => cases hl
  | map es => cases o' <;> cases hl; exact h
  | tok n s => cases o' <;> cases hl; exact h

theorem StLe.live {σ σ' : St} (h : StLe σ σ') {id : Nat} (hi : σ' id ≠ none) : σ id ≠ none := by
  cases hx : σ' id with
  | none => exact absurd hx hi
  | some o => obtain ⟨p, hp, _⟩ := h id o hx; rw [hp]; simp

theorem Rel.le {σ σ' : St} {Γ : Gh} {w : World} (h : Rel σ Γ w) (hs : StLe σ σ') : Rel σ' Γ w where
  im := h.im
  obj := fun id o ho => by
    obtain ⟨p, hp, hle⟩ := hs id o ho
    obtain ⟨l, hl, hob⟩ := h.obj id p hp
    exact ⟨l, hl, hob.le hle⟩
  inj := fun i j li lj hi hj => h.inj i j li lj (hs.live hi) (hs.live hj)
  low := h.low
  few := h.few

theorem Owned.le {Γ : Gh} {σ σ' : St} {b : Nat} (h : Owned Γ σ' b) (hs : StLe σ σ') : Owned Γ σ b := by
  obtain ⟨id, l, h1, h2, h3⟩ := h
  exact ⟨id, l, hs.live h1, h2, h3⟩

theorem Step.le {σ σ1 σ2 : St} {Γ Γ1 : Gh} {w w1 : World} (h : Step Γ σ w Γ1 σ1 w1) (hs : StLe σ1 σ2) : Step Γ σ w Γ1 σ2 w1 where
  ext := h.ext
  rel := h.rel.le hs
  pres := h.pres
  imo := h.imo
  own := fun b hb => h.own b (hb.le hs)
  size := h.size
  os := h.os
  tape := h.tape
  output := h.output

/-- From a store of which less is asked, on. -/
theorem Step.from {σ σ0 σ2 : St} {Γ Γ2 : Gh} {w w2 : World} (hr : Rel σ Γ w) (hs : StLe σ σ0) (h : Step Γ σ0 w Γ2 σ2 w2) : Step Γ σ w Γ2 σ2 w2 :=
  ((Step.refl hr).le hs).trans h

/-- What an operation may do beside, in a region whose order is told: a slice's tail keeps the right to append. -/
def actX (P : Program) (env : Env) (σ : St) (o : Op) (K : AV → St → Prop) : Prop :=
  act P env σ o K ∨ ∃ t x lo ti te e s es tk k n, o = .slice t x (some lo) none none ∧ tiOf P t = some ti ∧ ti.sh = .slice e ∧ tiOf P e = some te ∧ te.sz = s ∧ 0 < s ∧ opd env x = some (.imm s es tk) ∧ opd env lo = some (.int k n) ∧ 0 ≤ n ∧ n.toNat ≤ es.length ∧
    ((tk = .full ∧ K (.imm s (es.drop n.toNat) .full) σ) ∨ ∃ i, tk = .own i ∧ σ i = some (.tok es.length s) ∧ K (.imm s (es.drop n.toNat) .full) (σ.set i none) ∧
      ∀ j, σ j = none → K (.imm s (es.drop n.toNat) (.own j)) ((σ.set i none).set j (some (.tok (es.length - n.toNat) s))))

theorem actX_sound {Γ : Gh} {w : World} {a : Act} {env : Env} {σ : St} {o : Oper} {K : AV → St → Prop} (he : EnvRel Γ env a) (hr : Rel σ Γ w) (h : actX P env σ o.op K) : Goes P Γ σ w a o K := by
  rcases h with h | ⟨t, x, lo, ti, te, e, s, es, tk, kd, n, ho, hti, hsh, hte, hs, hpos, hx, hlo, hn, hle, hK⟩
  · exact act_sound he hr h
  obtain ⟨i0, d, h1, h2, h3⟩ := tiOf_info hti
  have hd := sh_slice ((by rw [h3] : ti.sh = shOf P t d).symm.trans hsh)
  subst hd
  have hsz : elemSz P ti.sh = some s := by rw [hsh]; simp [elemSz, hte, hs]
  obtain ⟨ie, hie, hies⟩ := elemSz_slice hsh hsz
  have hp := opd_sound he hx
  have hq := opd_sound he hlo
  simp only [VR] at hp hq
  obtain ⟨ad, cap, xs, hp, hcap, hnil, hve, him, htk⟩ := hp
  have hlb : (n.toNat = 0 ∧ (some (a.eval lo)) = none) ∨ ∃ k, some (a.eval lo) = some (.int k (n.toNat : Int)) := .inr ⟨kd, by rw [hq, Int.toNat_of_nonneg hn]⟩
  have hrun := run_sliceBounds (P := P) (w := w) (isS := true) (len := es.length) (cap := cap) (h := es.length) hlb (.inl ⟨rfl, rfl⟩) hle hcap
  have hop : (execOp a.eval o).run P w = .ok (.value (.slice (if cap = n.toNat then ad.map toAddr else (ad.map toAddr).map (·.add (n.toNat * s))) (es.length - n.toNat) (cap - n.toNat))) w := by
    simp [execOp, ho, hp, Instr.sliceAt, Instr.slice, run_underlying h2, hrun, run_sizeOf' hie, hies]
  have htake : (es.drop n.toNat).take (es.length - n.toNat) = es.drop n.toNat := List.take_of_length_le (by simp)
  rcases hK with ⟨rfl, hK⟩ | ⟨i, rfl, hσ, hK1, hK2⟩
  · have hc : cap = es.length := htk
    refine goes_value hop (Step.refl hr) ?_ hK
    have := VR_sliced (sz := s) (l := n.toNat) (h := es.length) (m := cap) (tk := .full) hve him hnil hle (Nat.le_refl _) (.inl rfl) hcap (Nat.le_refl _) (fun _ => by simp only [TkOk]; rw [hc])
    rwa [htake] at this
  · obtain ⟨b, off, rfl, hloc⟩ := htk
    by_cases hcl : cap = n.toNat
    · refine goes_value hop ((Step.refl hr).le (StLe.of_sub fun k p hk => by
        by_cases h : k = i
        · subst h; rw [St.set_same] at hk; cases hk
        · rwa [St.set_ne _ _ h] at hk)) ?_ hK1
      have := VR_sliced (sz := s) (l := n.toNat) (h := es.length) (m := cap) (tk := .full) hve him hnil hle (Nat.le_refl _) (.inl rfl) hcap (Nat.le_refl _) (fun _ => by simp only [TkOk]; omega)
      rwa [htake] at this
    · obtain ⟨l, hl', ho'⟩ := hr.obj _ _ hσ
      rw [hloc] at hl'; cases hl'
      obtain ⟨hno, arr, T, fz, hh, hsoft, hplain, hasz⟩ := ho'
      simp only at hno hh hasz
      obtain ⟨j, k1, k2⟩ := hr.fresh
      have hji : j ≠ i := fun hh => by subst hh; rw [hloc] at k2; cases k2
      have e1 : off + n.toNat * s + (es.length - n.toNat) * s = off + es.length * s := by
        rw [Nat.add_assoc, ← Nat.add_mul]; congr 2; omega
      have e2 : off + n.toNat * s + (cap - n.toNat) * s = off + cap * s := by
        rw [Nat.add_assoc, ← Nat.add_mul]; congr 2; omega
      have hstep := Step.upd (σ := σ) (Γ := Γ) (Γ' := ⟨Γ.im, fun q => if q = j then some (b, off + n.toNat * s, cap - n.toNat) else Γ.loc q⟩) (w := w) (w' := w) hr hσ hloc j (b, off + n.toNat * s, cap - n.toNat) rfl (.inr ⟨k1, k2⟩)
        (o' := .tok (es.length - n.toNat) s) (fun _ => rfl) (fun h => absurd h hji) (fun _ _ _ => rfl) (fun _ _ h => h) (fun _ _ => rfl) rfl (fun q y hy => hr.im _ _ _ hy)
        ⟨fun q hq => hno q (by simp only at hq; rw [e1] at hq; exact hq), arr, T, fz, hh, hsoft, hplain, by simp only; rw [e2]; exact hasz⟩ rfl rfl rfl
      refine goes_value hop hstep ?_ (hK2 j k1)
      simp only [VR]
      rw [if_neg hcl]
      refine ⟨some (b, off + n.toNat * s), cap - n.toNat, xs.drop (n.toNat * s), ?_, by simp; omega, by simp, (hve.ext hstep.ext).drop n.toNat, (him.ext hstep.ext).drop _, ?_⟩
      · simp [toAddr, add_none]
      · exact ⟨b, off + n.toNat * s, rfl, if_pos rfl⟩

/-- Operations one behind the other; of each value less may be kept than is known. -/
def arun (P : Program) (ops : Array Oper) : List Oper → (Env → St → Prop) → Env → St → Prop
  | [], K, env, σ => K env σ
  | o :: rest, K, env, σ => match guardA ops env o with
    | some b => if b then actX P env σ o.op (fun u σ1 => ∃ v σ', Le u v ∧ StLe σ1 σ' ∧ arun P ops rest K (env.put o.dst v) σ') else arun P ops rest K (env.put o.dst (.tup [])) σ
    | none => False

abbrev AQ := Exit → Env → St → Prop

def thenQ (K : Env → St → Prop) (Q : AQ) : AQ
  | .normal, env, σ => K env σ
  | e, env, σ => Q e env σ

def blockQ (id : Nat) (Q : AQ) : AQ
  | .exit id', env, σ => if id' = id then Q .normal env σ else Q (.exit id') env σ
  | e, env, σ => Q e env σ

theorem EnvRel.ext {Γ Γ' : Gh} {env : Env} {a : Act} (h : Ext Γ Γ') (he : EnvRel Γ env a) : EnvRel Γ' env a := fun k v hk => (he k v hk).ext h

theorem put_size (a : Act) (d : Option Tmp) (v : Value) : (a.put d v).tmps.size = a.tmps.size := by
  cases d <;> simp [Act.put]

theorem EnvRel.put {Γ : Gh} {env : Env} {a : Act} (he : EnvRel Γ env a) {d : Option Tmp} {v : AV} {cv : Value} (hv : VR Γ v cv) (hd : ∀ k, d = some k → k < a.tmps.size) : EnvRel Γ (env.put d v) (a.put d cv) := by
  cases d with
  | none => exact he
  | some k =>
    intro j u hj
    have hk := hd k rfl
    simp only [Env.put, Env.get_set] at hj
    split at hj
    · rename_i h; subst h; cases hj
      simpa [Act.put, Array.getD, hk] using hv
    · rename_i h
      have := he j u hj
      simp only [Act.put, Array.getD_eq_getD_getElem?, Array.getElem?_setIfInBounds] at this ⊢
      rw [if_neg (Ne.symm h)]; exact this

theorem guardA_sound {Γ : Gh} {ops : Array Oper} {env : Env} {a : Act} {o : Oper} {b : Bool} (he : EnvRel Γ env a) (h : guardA ops env o = some b) : Region.wanted o (yielded ops a.tmps) = b := by
  unfold guardA at h
  unfold Region.wanted
  split at h
  · rename_i hg; cases h; simp [hg]
  · rename_i j want hg
    simp only [hg]
    split at h
    · rename_i d hd
      have hy : yielded ops a.tmps j = match a.tmps[d]? with | some (.bool b) => some b | _ => none := by
        simp only [yielded, hd, Option.bind_some]
        cases a.tmps[d]? with
        | none => rfl
        | some x => cases x <;> rfl
      split at h
      · rename_i c hc
        have hv := he d _ hc
        simp only [VR] at hv
        cases hx : a.tmps[d]? with
        | none => simp [Array.getD_eq_getD_getElem?, hx, undef] at hv
        | some x =>
          simp [Array.getD_eq_getD_getElem?, hx] at hv
          subst hv
          cases h
          rw [hy, hx]
          cases c <;> cases want <;> rfl
      · rename_i hc
        have hv := he d _ hc
        simp only [VR] at hv
        obtain ⟨xs, hv, hxs⟩ := hv
        have := VRL.nil_inv hxs
        subst this
        cases h
        cases hx : a.tmps[d]? with
        | none => rw [hy, hx]; rfl
        | some x =>
          simp [Array.getD_eq_getD_getElem?, hx] at hv
          subst hv
          rw [hy, hx]; rfl
      · cases h
    · cases h

theorem arun_sound {ops : Array Oper} {Q : Exit → Act → World → Prop} : ∀ (l : List Oper) {K : Env → St → Prop} {Γ : Gh} {env : Env} {σ : St} {a : Act} {w : World}, arun P ops l K env σ → EnvRel Γ env a → Rel σ Γ w →
    (∀ o ∈ l, ∀ k, o.dst = some k → k < a.tmps.size) →
    (∀ env' σ' Γ' a' w', Step Γ σ w Γ' σ' w' → EnvRel Γ' env' a' → a'.tmps.size = a.tmps.size → a'.defers = a.defers → K env' σ' → Q .normal a' w') → wpList P ops Q l a w
  | [], K, Γ, env, σ, a, w, h, he, hr, _, hQ => hQ env σ Γ a w (Step.refl hr) he rfl rfl h
  | o :: rest, K, Γ, env, σ, a, w, h, he, hr, hd, hQ => by
    simp only [arun] at h
    have hdo : ∀ k, o.dst = some k → k < a.tmps.size := hd o (by simp)
    have hdefs : ∀ v, (a.put o.dst v).defers = a.defers := fun v => by cases o.dst <;> rfl
    split at h
    · rename_i b hb
      have hw := guardA_sound he hb
      unfold wpList
      cases b with
      | true =>
        rw [if_pos hw]
        rw [if_pos rfl] at h
        refine .inl (actX_sound he hr h _ _ fun cv w' u σ1 Γ' hs hv hK => ?_)
        obtain ⟨v, σ', hle, hsl, hK⟩ := hK
        replace hs := hs.le hsl
        exact arun_sound rest hK ((he.ext hs.ext).put (hle _ _ hv) hdo) hs.rel (fun p hp k hk => by rw [put_size]; exact hd p (by simp [hp]) k hk)
          (fun env2 σ2 Γ2 a2 w2 h1 h2 h3 h4 h5 => hQ env2 σ2 Γ2 a2 w2 (hs.trans h1) h2 (by rw [h3, put_size]) (by rw [h4, hdefs]) h5)
      | false =>
        rw [if_neg (by rw [hw]; simp)]
        rw [if_neg (by simp)] at h
        exact arun_sound rest h (he.put (v := .tup []) (cv := undef) (by simp only [VR]; exact ⟨[], rfl, VRL.nil⟩) hdo) hr (fun p hp k hk => by rw [put_size]; exact hd p (by simp [hp]) k hk)
          (fun env2 σ2 Γ2 a2 w2 h1 h2 h3 h4 h5 => hQ env2 σ2 Γ2 a2 w2 h1 h2 (by rw [h3, put_size]) (by rw [h4, hdefs]) h5)
    · exact h.elim

/-- What is left to show of code, in the model: what the abstract machine says of its end. -/
def PostA (Q : AQ) (Γ : Gh) (σ : St) (w : World) (a : Act) : Exit → Act → World → Prop := fun e a' w' =>
  ∃ env' σ' Γ', Step Γ σ w Γ' σ' w' ∧ EnvRel Γ' env' a' ∧ a'.tmps.size = a.tmps.size ∧ a'.defers = a.defers ∧ Q e env' σ'

end Go.Am
