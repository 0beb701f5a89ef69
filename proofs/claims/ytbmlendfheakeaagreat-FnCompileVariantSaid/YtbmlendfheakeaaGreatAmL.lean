/-
  The abstract machine over code, seen by its meaning: what must hold of slots and store for code to come to a given end. One rule for each form of code.
-/
import Derived.Test.YtbmlendfheakeaaGreatAmK
namespace Go.Am

variable {P : Program}

def EnvLe (env env' : Env) : Prop := ∀ k v, env'.get k = some v → ∃ u, env.get k = some u ∧ Le u v

theorem Le.of_eq {u v : AV} (h : u = v) : Le u v := h ▸ Le.refl u
theorem Le.agg {us vs : List AV} (h : LeL us vs) : Le (.agg us) (.agg vs) := fun Γ x hx => by
  simp only [VR] at hx ⊢
  obtain ⟨xs, h1, h2⟩ := hx
  exact ⟨xs, h1, h Γ xs h2⟩

theorem Le.tup {us vs : List AV} (h : LeL us vs) : Le (.tup us) (.tup vs) := fun Γ x hx => by
  simp only [VR] at hx ⊢
  obtain ⟨xs, h1, h2⟩ := hx
  exact ⟨xs, h1, h Γ xs h2⟩

/-- The right to append may be given up. -/
theorem Le.tok (sz : Nat) (es : List AV) (tk : Tk) : Le (.imm sz es tk) (.imm sz es .no) := fun Γ x hx => by
  simp only [VR] at hx ⊢
  obtain ⟨a, cap, xs, h1, h2, h3, h4, h5, _⟩ := hx
  exact ⟨a, cap, xs, h1, h2, h3, h4, h5, trivial⟩

theorem VRE.le {Γ : Gh} {sz : Nat} : ∀ {es fs : List AV} {xs : List Value}, es.length = fs.length → (∀ (i : Nat) (e f : AV), es[i]? = some e → fs[i]? = some f → Le e f) → VRE Γ sz es xs → VRE Γ sz fs xs
  | [], [], _, _, _, h => h
  | [], _ :: _, _, hl, _, _ => by simp at hl
  | _ :: _, [], _, hl, _, _ => by simp at hl
  | e :: es, f :: fs, xs, hl, hle, h => by
    simp only [VRE] at h ⊢
    obtain ⟨y, ys, h1, h2, h3, h4⟩ := h
    exact ⟨y, ys, h1, h2, hle 0 e f rfl rfl Γ y h3, VRE.le (by simpa using hl) (fun i e' f' a b => hle (i + 1) e' f' (by simpa using a) (by simpa using b)) h4⟩

/-- Elements may be said in weaker words. -/
theorem Le.elems {sz : Nat} {es fs : List AV} {tk : Tk} (hl : es.length = fs.length) (h : ∀ (i : Nat) (e f : AV), es[i]? = some e → fs[i]? = some f → Le e f) : Le (.imm sz es tk) (.imm sz fs tk) := fun Γ x hx => by
  simp only [VR] at hx ⊢
  obtain ⟨a, cap, xs, h1, h2, h3, h4, h5, h6⟩ := hx
  refine ⟨a, cap, xs, by rw [← hl]; exact h1, by rw [← hl]; exact h2, fun ha => ?_, VRE.le hl h h4, h5, by rw [← hl]; exact h6⟩
  obtain ⟨he, hc⟩ := h3 ha
  subst he
  exact ⟨by simpa using hl.symm, hc⟩

theorem Le.empty' (sz sz' : Nat) (tk : Tk) (h : tk = .full) : Le (.imm sz [] tk) (.imm sz' [] .full) := fun Γ x hx => by
  subst h
  simp only [VR] at hx ⊢
  obtain ⟨a, cap, xs, h1, h2, h3, h4, h5, h6⟩ := hx
  refine ⟨a, cap, xs, h1, h2, h3, ?_, h5, h6⟩
  simpa only [VRE] using h4

theorem EnvRel.le {Γ : Gh} {env env' : Env} {a : Act} (he : EnvRel Γ env a) (h : EnvLe env env') : EnvRel Γ env' a := fun k v hk => by
  obtain ⟨u, h1, h2⟩ := h k v hk
  exact h2 Γ _ (he k u h1)

theorem PostA.le {Q : AQ} {Γ : Gh} {σ σ0 : St} {w : World} {a : Act} {e : Exit} {a' : Act} {w' : World} (hr : Rel σ Γ w) (hs : StLe σ σ0) (h : PostA Q Γ σ0 w a e a' w') : PostA Q Γ σ w a e a' w' := by
  obtain ⟨env', σ', Γ', h1, h2, h3, h4, h5⟩ := h
  exact ⟨env', σ', Γ', h1.from hr hs, h2, h3, h4, h5⟩

theorem PostA.trans {Q : AQ} {Γ Γ1 : Gh} {σ σ1 : St} {w w1 : World} {a a1 : Act} {e : Exit} {a' : Act} {w' : World} (hs : Step Γ σ w Γ1 σ1 w1) (hz : a1.tmps.size = a.tmps.size) (hd : a1.defers = a.defers) (h : PostA Q Γ1 σ1 w1 a1 e a' w') : PostA Q Γ σ w a e a' w' := by
  obtain ⟨env', σ', Γ', h1, h2, h3, h4, h5⟩ := h
  exact ⟨env', σ', Γ', hs.trans h1, h2, h3.trans hz, h4.trans hd, h5⟩

/-- Each operation's slot is there. -/
def dstOk (n : Nat) (ops : List Oper) : Bool := ops.all fun o => match o.dst with
  | some d => decide (d < n)
  | none => true

def okCode (n : Nat) : Code → Bool
  | .region _ ops _ => dstOk n ops.toList
  | .seq a b => okCode n a && okCode n b
  | .cond _ a b => okCode n a && okCode n b
  | .block _ c => okCode n c
  | .loop c => okCode n c
  | _ => true

theorem dstOk_spec {n : Nat} {ops : List Oper} (h : dstOk n ops = true) : ∀ o ∈ ops, ∀ k, o.dst = some k → k < n := fun o ho k hk => by
  have := List.all_eq_true.1 h o ho
  rw [hk] at this
  simpa using this

/-- Code comes to an end of which Q holds. -/
def SW (P : Program) (n : Nat) (c : Code) (Q : AQ) (env : Env) (σ : St) : Prop :=
  okCode n c = true → ∀ (Γ : Gh) (a : Act) (w : World), EnvRel Γ env a → Rel σ Γ w → a.tmps.size = n → c.wp P (PostA Q Γ σ w a) a w

/-- The head of a round of a loop. -/
def LW (P : Program) (n : Nat) (c : Code) (Q : AQ) (env : Env) (σ : St) : Prop :=
  okCode n c = true → ∀ (Γ : Gh) (a : Act) (w : World), EnvRel Γ env a → Rel σ Γ w → a.tmps.size = n → ∀ (b : Frame) (k : List Item) (cs : List Frame),
    ∃ e a' w', PostA Q Γ σ w a e a' w' ∧ Arrives P (lone (b.at a (.code c :: .inLoop c :: k)) cs w) b k cs e a' w'

variable {n : Nat} {Q : AQ} {env : Env} {σ : St}

theorem SW.mono {c : Code} {Q' : AQ} (hq : ∀ e env' σ', Q e env' σ' → Q' e env' σ') (h : SW P n c Q env σ) : SW P n c Q' env σ :=
  fun hk Γ a w he hr hz => Code.wp_mono (fun _ _ _ ⟨env', σ', Γ', h1, h2, h3, h4, h5⟩ => ⟨env', σ', Γ', h1, h2, h3, h4, hq _ _ _ h5⟩) (h hk Γ a w he hr hz)

theorem SW.skip (h : Q .normal env σ) : SW P n .skip Q env σ := fun _ Γ _ _ he hr _ => wp_skip ⟨env, σ, Γ, Step.refl hr, he, rfl, rfl, h⟩
theorem SW.exit {id : Nat} (h : Q (.exit id) env σ) : SW P n (.exit id) Q env σ := fun _ Γ _ _ he hr _ => wp_exit ⟨env, σ, Γ, Step.refl hr, he, rfl, rfl, h⟩
theorem SW.ret (h : Q .ret env σ) : SW P n .ret Q env σ := fun _ Γ _ _ he hr _ => wp_ret ⟨env, σ, Γ, Step.refl hr, he, rfl, rfl, h⟩

theorem SW.seq {x y : Code} (h : SW P n x (thenQ (SW P n y Q) Q) env σ) : SW P n (.seq x y) Q env σ := fun hk Γ a w he hr hz => by
  simp only [okCode, Bool.and_eq_true] at hk
  refine wp_seq (Code.wp_mono ?_ (h hk.1 Γ a w he hr hz))
  rintro e a1 w1 ⟨env', σ', Γ', h1, h2, h3, h4, h5⟩
  cases e with
  | normal => exact Code.wp_mono (fun _ _ _ hp => hp.trans h1 h3 h4) (h5 hk.2 Γ' a1 w1 h2 h1.rel (h3.trans hz))
  | exit id => exact ⟨env', σ', Γ', h1, h2, h3, h4, h5⟩
  | goto l => exact ⟨env', σ', Γ', h1, h2, h3, h4, h5⟩
  | ret => exact ⟨env', σ', Γ', h1, h2, h3, h4, h5⟩
  | panic ch => exact ⟨env', σ', Γ', h1, h2, h3, h4, h5⟩
  | outgrown => exact ⟨env', σ', Γ', h1, h2, h3, h4, h5⟩

theorem SW.block {id : Nat} {c : Code} (h : SW P n c (blockQ id Q) env σ) : SW P n (.block id c) Q env σ := fun hk Γ a w he hr hz => by
  simp only [okCode] at hk
  refine wp_block (Code.wp_mono ?_ (h hk Γ a w he hr hz))
  rintro e a1 w1 ⟨env', σ', Γ', h1, h2, h3, h4, h5⟩
  cases e with
  | exit id' =>
    simp only [blockQ, Exit.inBlock] at h5 ⊢
    split
    · rename_i hid; rw [if_pos hid] at h5; exact ⟨env', σ', Γ', h1, h2, h3, h4, h5⟩
    · rename_i hid; rw [if_neg hid] at h5; exact ⟨env', σ', Γ', h1, h2, h3, h4, h5⟩
  | normal => exact ⟨env', σ', Γ', h1, h2, h3, h4, h5⟩
  | goto l => exact ⟨env', σ', Γ', h1, h2, h3, h4, h5⟩
  | ret => exact ⟨env', σ', Γ', h1, h2, h3, h4, h5⟩
  | panic ch => exact ⟨env', σ', Γ', h1, h2, h3, h4, h5⟩
  | outgrown => exact ⟨env', σ', Γ', h1, h2, h3, h4, h5⟩

theorem SW.cond {c : Operand} {x y : Code} {t : Bool} (hc : opd env c = some (.bool t)) (h1 : t = true → SW P n x Q env σ) (h2 : t = false → SW P n y Q env σ) : SW P n (.cond c x y) Q env σ := fun hk Γ a w he hr hz => by
  simp only [okCode, Bool.and_eq_true] at hk
  have hv := opd_sound he hc
  simp only [VR] at hv
  exact wp_cond_split hv (fun ht => h1 ht hk.1 Γ a w he hr hz) (fun ht => h2 ht hk.2 Γ a w he hr hz)

theorem SW.region {id : Nat} {ops : Array Oper} (h : arun P ops ops.toList (Q .normal) env σ) : SW P n (.region id ops false) Q env σ := fun hk Γ a w he hr hz => by
  simp only [okCode] at hk
  exact wp_region_list (arun_sound ops.toList h he hr (fun o ho k hd => by rw [hz]; exact dstOk_spec hk o ho k hd) (fun env' σ' Γ' a' w' h1 h2 h3 h4 h5 => ⟨env', σ', Γ', h1, h2, h3, h4, h5⟩))

/-- Code ahead of other code, the other code out of sight. -/
theorem SW.seqK {x y : Code} (h : ∀ K : Env → St → Prop, (∀ e s, SW P n y Q e s → K e s) → SW P n x (thenQ K Q) env σ) : SW P n (.seq x y) Q env σ := SW.seq (h _ fun _ _ hh => hh)

/-- A region ahead of other code, the other code out of sight. -/
theorem SW.seqR {id : Nat} {ops : Array Oper} {y : Code} (h : ∀ K : Env → St → Prop, (∀ e s, SW P n y Q e s → K e s) → arun P ops ops.toList K env σ) : SW P n (.seq (.region id ops false) y) Q env σ :=
  SW.seq (SW.region (h _ fun _ _ hh => hh))

theorem SW.draw {id : Nat} {ops : Array Oper} (hm : P.follows .mixedOrders = true) (h : DrawA P ops (Q .normal) env σ) : SW P n (.region id ops true) Q env σ := fun hk Γ a w he hr hz => by
  simp only [okCode] at hk
  exact drawA_sound hm h he hr (fun o ho k hd => by rw [hz]; exact dstOk_spec hk o ho k hd) (fun env' σ' Γ' a' w' h1 h2 h3 h4 h5 => ⟨env', σ', Γ', h1, h2, h3, h4, h5⟩)

theorem SW.loop {c : Code} (h : LW P n c Q env σ) : SW P n (.loop c) Q env σ := fun hk Γ a w he hr hz b k cs => by
  simp only [okCode] at hk
  obtain ⟨e, a', w', hp, ha⟩ := h hk Γ a w he hr hz b k cs
  exact ⟨e, a', w', hp, .of_steps (.one step_loop) ha⟩

theorem LW.round {c : Code} (h : SW P n c (thenQ (LW P n c Q) Q) env σ) : LW P n c Q env σ := fun hk Γ a w he hr hz b k cs => by
  obtain ⟨e, a₁, w₁, ⟨env', σ', Γ', h1, h2, h3, h4, h5⟩, harr⟩ := h hk Γ a w he hr hz b (.inLoop c :: k) cs
  cases e with
  | normal =>
    obtain ⟨e₂, a₂, w₂, hq₂, harr₂⟩ := h5 hk Γ' a₁ w₁ h2 h1.rel (h3.trans hz) b k cs
    exact ⟨e₂, a₂, w₂, hq₂.trans h1 h3 h4, .of_steps (Steps.trans harr (.one step_inLoop)) harr₂⟩
  | exit id => exact ⟨_, a₁, w₁, ⟨env', σ', Γ', h1, h2, h3, h4, h5⟩, .pass (x := .inLoop c) rfl (fun _ _ => .inl (by simp)) harr⟩
  | goto l => exact ⟨_, a₁, w₁, ⟨env', σ', Γ', h1, h2, h3, h4, h5⟩, .pass (x := .inLoop c) rfl (fun _ _ => .inl (by simp)) harr⟩
  | ret => exact ⟨_, a₁, w₁, ⟨env', σ', Γ', h1, h2, h3, h4, h5⟩, .pass (x := .inLoop c) rfl (fun _ _ => .inl (by simp)) harr⟩
  | panic ch => exact ⟨_, a₁, w₁, ⟨env', σ', Γ', h1, h2, h3, h4, h5⟩, .pass (x := .inLoop c) rfl (fun _ _ => .inl (by simp)) harr⟩
  | outgrown => exact ⟨_, a₁, w₁, ⟨env', σ', Γ', h1, h2, h3, h4, h5⟩, .pass (x := .inLoop c) rfl (fun _ _ => .inl (by simp)) harr⟩

/-- A loop by what holds at each round's head, with a number that each round lowers. -/
theorem LW.ind {c : Code} {I : Nat → Env → St → Prop} (h : ∀ k env σ, I k env σ → SW P n c (thenQ (fun e s => ∃ m, m < k ∧ I m e s) Q) env σ) : ∀ (k : Nat) (env : Env) (σ : St), I k env σ → LW P n c Q env σ := by
  intro k
  induction k using Nat.strongRecOn with
  | _ k ih =>
    intro env σ hI
    refine LW.round ((h k env σ hI).mono fun e env' σ' hq => ?_)
    cases e with
    | normal => obtain ⟨m, hlt, hm⟩ := hq; exact ih m hlt env' σ' hm
    | exit id => exact hq
    | goto l => exact hq
    | ret => exact hq
    | panic ch => exact hq
    | outgrown => exact hq

/-! ### Whole functions -/

/-- A result, out of the slots and the store. -/
def resA (P : Program) (env : Env) (σ : St) : ResultVar → Option AV
  | .tmp t => env.get t
  | .cell a t => rd P env σ (.load t (.tmp a))

def resAs (P : Program) (env : Env) (σ : St) : List ResultVar → Option (List AV)
  | [] => some []
  | r :: rs => match resA P env σ r, resAs P env σ rs with
    | some v, some vs => some (v :: vs)
    | _, _ => none

def tup1 : List AV → AV
  | [v] => v
  | vs => .tup vs

/-- At the end of a function: what it returns, and how it leaves the store. -/
def retQ (P : Program) (rs : List ResultVar) (K : AV → St → Prop) : AQ
  | .normal, env, σ | .ret, env, σ => match resAs P env σ rs with
    | some vs => ∃ v σ', Le (tup1 vs) v ∧ StLe σ σ' ∧ K v σ'
    | none => False
  | _, _, _ => False

def argEnv (args : List AV) : Env := fun k => args[k]?

theorem argEnv_get (args : List AV) (k : Nat) : (argEnv args).get k = args[k]? := rfl

theorem loadVar_sound {Γ : Gh} {a : Act} {w : World} {t : TypeId} {k : Nat} {v : AV} (he : EnvRel Γ env a) (hr : Rel σ Γ w) (h : rd P env σ (.load t (.tmp k)) = some v) :
    ∃ cv, ((asAddr (a.tmps.getD k undef)) >>= fun p => loadVar t p).run P w = .ok cv w ∧ VR Γ v cv := by
  simp only [rd] at h
  split at h
  · rename_i ti id off ht hx
    split at h
    · rename_i cs hσ
      have hp := opd_sound he hx
      simp only [VR] at hp
      obtain ⟨b, c, hl, hp⟩ := hp
      obtain ⟨l, hl', ho'⟩ := hr.obj _ _ hσ
      rw [hl] at hl'; cases hl'
      obtain ⟨_, _, arr, T, fz, hh, _, _, hle, hv⟩ := ho'
      obtain ⟨cv, hrun, hvr⟩ := run_loadVar_am (P := P) (w := w) (b := b) (off := 0) ht hv h (fun i x hi => by
        rw [Nat.zero_add, cell?_cells hh]
        rw [List.getElem?_take] at hi
        split at hi
        · simpa using hi
        · cases hi)
      rw [Nat.zero_add] at hrun
      refine ⟨cv, ?_, hvr⟩
      have hp' : a.tmps.getD k undef = .pointer (some ⟨b, off, none⟩) := hp
      rw [hp']
      simp [asAddr, hrun]
    · cases h
  · rename_i ti cs off ht hx
    have hp := opd_sound he hx
    simp only [VR] at hp
    obtain ⟨b, o', xs, hp, hv, him⟩ := hp
    obtain ⟨cv, hrun, hvr⟩ := run_loadVar_am (P := P) (w := w) (b := b) (off := o') ht hv h (fun i x hi => (hr.im _ _ _ (him i x hi)).1)
    refine ⟨cv, ?_, hvr⟩
    have hp' : a.tmps.getD k undef = .pointer (some ⟨b, o' + off, none⟩) := hp
    rw [hp']
    simp [asAddr, hrun]
  · cases h

def resC (tmps : Array Value) : ResultVar → Sem Value
  | .tmp t => pure (tmps.getD t undef)
  | .cell k t => do loadVar t (← asAddr (tmps.getD k undef))

theorem results_eq (fn : Func) (tmps : Array Value) : results fn tmps = (do let vs ← fn.results.mapM (resC tmps); pure (if h : vs.size = 1 then vs[0] else .tuple vs)) := by
  have : resC tmps = fun (x : ResultVar) => (match x with | .tmp t => pure (tmps.getD t undef) | .cell k t => do loadVar t (← asAddr (tmps.getD k undef)) : Sem Value) := by
    funext x; cases x <;> rfl
  unfold results
  rw [this]
  rfl

theorem results_list {Γ : Gh} {a : Act} {w : World} (he : EnvRel Γ env a) (hr : Rel σ Γ w) : ∀ {rs : List ResultVar} {vs : List AV}, resAs P env σ rs = some vs →
    ∃ xs : List Value, (rs.mapM (resC a.tmps)).run P w = .ok xs w ∧ VRL Γ vs xs
  | [], vs, h => by
    simp only [resAs, Option.some.injEq] at h
    subst h
    exact ⟨[], by simp, VRL.nil⟩
  | r :: rs, vs, h => by
    simp only [resAs] at h
    split at h
    · rename_i v vs' h1 h2
      cases h
      obtain ⟨xs, hx, hv⟩ := results_list he hr h2
      cases r with
      | tmp t =>
        refine ⟨a.tmps.getD t undef :: xs, ?_, VRL.cons (he t v h1) hv⟩
        simp [List.mapM_cons, resC, hx]
      | cell k t =>
        obtain ⟨cv, hc, hvr⟩ := loadVar_sound he hr h1
        refine ⟨cv :: xs, ?_, VRL.cons hvr hv⟩
        have hc' : (resC a.tmps (.cell k t)).run P w = .ok cv w := hc
        simp [List.mapM_cons, hx, hc']
    · cases h

theorem results_sound {Γ : Gh} {a : Act} {w : World} {fn : Func} {vs : List AV} (he : EnvRel Γ env a) (hr : Rel σ Γ w) (h : resAs P env σ fn.results.toList = some vs) :
    ∃ cv, (results fn a.tmps).run P w = .ok cv w ∧ VR Γ (tup1 vs) cv := by
  obtain ⟨xs, hx, hv⟩ := results_list he hr h
  have hlen := hv.length
  rw [results_eq, Array.mapM_eq_mapM_toList]
  cases vs with
  | nil =>
    have : xs = [] := by simpa using hlen
    subst this
    exact ⟨.tuple #[], by simp [hx], by simp only [tup1, VR]; exact ⟨[], rfl, VRL.nil⟩⟩
  | cons v vs =>
    obtain ⟨y, ys, rfl, hy, hys⟩ := hv.cons_inv
    cases vs with
    | nil =>
      have : ys = [] := VRL.nil_inv hys
      subst this
      exact ⟨y, by simp [hx], hy⟩
    | cons v2 vs =>
      obtain ⟨y2, ys, rfl, hy2, hys⟩ := hys.cons_inv
      refine ⟨.tuple (y :: y2 :: ys).toArray, by simp [hx], ?_⟩
      simp only [tup1, VR]
      exact ⟨_, rfl, hv⟩

/-- ████ A FUNCTION'S CONTRACT, FROM ITS BODY. ████ -/
theorem AC.of_body {f : FuncId} {fn : Func} {c : Code} {args : List AV} {K : AV → St → Prop} (hf : P.funcs[f]? = some fn) (hb : fn.body = some c) (hn : (fn.name == "runtime.NumGoroutine") = false)
    (hk : okCode fn.ntmps c = true) (hl : args.length ≤ fn.ntmps) (h : SW P fn.ntmps c (retQ P fn.results.toList K) (argEnv args) σ) : AC P f args σ K := by
  refine ⟨⟨fn, hf, by rw [hb]; rfl, hn⟩, fun Γ w cargs ha hr => ?_⟩
  have hlen := ha.length
  refine calls_of_wp hf hb ?_
  have he : EnvRel Γ (argEnv args) { tmps := cargs.toArray ++ Array.replicate (fn.ntmps - cargs.toArray.size) undef, defers := [] } := fun k v hv => by
    have := VRL.getD ha hv
    have hk : k < cargs.length := by
      rw [hlen]
      rcases Nat.lt_or_ge k args.length with h | h
      · exact h
      · rw [argEnv_get, List.getElem?_eq_none h] at hv; cases hv
    have e : (cargs.toArray ++ Array.replicate (fn.ntmps - cargs.toArray.size) undef).getD k undef = cargs.getD k undef := by
      rw [Array.getD_eq_getD_getElem?, Array.getElem?_append_left (by simpa using hk)]
      simp [List.getD_eq_getElem?_getD]
    rw [e]; exact this
  refine Code.wp_mono ?_ (h hk Γ _ w he hr (by simp; omega))
  rintro e a' w' ⟨env', σ', Γ', h1, h2, h3, h4, h5⟩
  have fin : ∀ (hq : match resAs P env' σ' fn.results.toList with | some vs => ∃ v σ'', Le (tup1 vs) v ∧ StLe σ' σ'' ∧ K v σ'' | none => False), a'.defers = [] ∧ ∃ cv, (results fn a'.tmps).run P w' = .ok cv w' ∧ ∃ cv' v σ'' Γ'', Ending.returned cv = .returned cv' ∧ Step Γ σ w Γ'' σ'' w' ∧ VR Γ'' v cv' ∧ K v σ'' := fun hq => by
    split at hq
    · rename_i vs hvs
      obtain ⟨v, σ'', k1, k2, k3⟩ := hq
      obtain ⟨cv, hrun, hvr⟩ := results_sound h2 h1.rel hvs
      exact ⟨h4, cv, hrun, cv, v, σ'', Γ', rfl, h1.le k2, k1 _ _ hvr, k3⟩
    · exact hq.elim
  cases e with
  | normal => exact fin h5
  | ret => exact fin h5
  | exit id => exact h5.elim
  | goto l => exact h5.elim
  | panic ch => exact h5.elim
  | outgrown => exact h5.elim

/-- A call with more than is asked. -/
theorem AC.args {f : FuncId} {args args' : List AV} {σ' : St} {K : AV → St → Prop} (h : AC P f args' σ' K) (ha : LeL args args') (hs : StLe σ σ') : AC P f args σ K :=
  ⟨h.1, fun Γ w cargs hx hr => (h.2 Γ w cargs (ha Γ cargs hx) (hr.le hs)).mono fun _ _ ⟨cv, v, σ2, Γ2, he, k1, k2, k3⟩ => ⟨cv, v, σ2, Γ2, he, k1.from hr hs, k2, k3⟩⟩

end Go.Am
