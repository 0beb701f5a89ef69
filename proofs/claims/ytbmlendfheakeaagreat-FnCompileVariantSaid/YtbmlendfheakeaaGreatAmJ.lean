/-
  Statements whose order Go leaves open: whatever order is drawn, they come to what they come to in one order that is told.
-/
import Derived.Test.YtbmlendfheakeaaGreatAmI
import Derived.Orders
namespace Go.Am

variable {P : Program} {env env' : Env} {σ : St}

/-- Operations by what they touch: nothing but slots; the store, to read it; a new thing of the store; the rest. -/
inductive Cl where
  | quiet | reads | alloc | work
  deriving DecidableEq

def clsOf : Op → Cl
  | .move _ | .assign _ | .pick .. | .nilCheck _ | .binOp .. | .unOp .. | .convert .. | .field .. | .fieldAddr .. | .indexAddr .. | .index .. | .slice .. | .extract .. | .build .. | .makeFunc .. | .buildSlice .. => .quiet
  | .load .. | .lookup .. => .reads
  | .call c => match c.callee with
    | .builtin .len => .reads
    | .builtin .min | .builtin .max => .quiet
    | _ => .work
  | .alloc _ => .alloc
  | .makeMap _ none => .alloc
  | .makeSlice _ (.const _) (.const _) => .alloc
  | _ => .work

/-- Which thing of the store a reading operation looks at. -/
def looks (env : Env) : Op → Option Nat
  | .load _ x => match opd env x with
    | some (.ptr id _) => some id
    | _ => none
  | .lookup _ m _ _ => match opd env m with
    | some (.mp id) => some id
    | _ => none
  | .call c => match c.args.toList with
    | [x] => match opd env x with
      | some (.mp id) => some id
      | _ => none
    | _ => none
  | _ => none

/-- A quiet operation's value. -/
def qv (P : Program) (env : Env) (σ : St) : Op → Option AV
  | .buildSlice t len ps => bsv P env t len ps
  | op => rd P env σ op

/-- What an allocation makes. -/
def allocOf (P : Program) : Op → Option ((Nat → AV) × AObj)
  | .alloc t => match tiOf P t with
    | some { zero := some z, .. } => some (fun id => .ptr id 0, .cells z.cells)
    | _ => none
  | .makeMap _ none => some (fun id => .mp id, .map [])
  | .makeSlice t (.const l) (.const c) => match tiOf P t, ofVal l, ofVal c with
    | some { sh := .slice e, .. }, some (.int .i64 n), some (.int .i64 m) => match tiOf P e with
      | some { zero := some z, sz, bytes, .. } => if n = m ∧ 0 ≤ n ∧ n ≤ 4294967296 ∧ bytes ≤ 1024 ∧ z.cells.length = sz ∧ 0 < sz then
          some (fun id => .ref id 0 n.toNat n.toNat, .cells (List.replicate n.toNat z.cells).flatten) else none
      | _ => none
    | _, _, _ => none
  | _ => none

theorem act_quiet {op : Op} {K : AV → St → Prop} (hc : clsOf op = .quiet ∨ clsOf op = .reads) : act P env σ op K ↔ ∃ v, qv P env σ op = some v ∧ K v σ := by
  have viaRd : ∀ q : Op, (match rd P env σ q with | some v => K v σ | none => False) ↔ ∃ v, rd P env σ q = some v ∧ K v σ := fun q => by
    cases rd P env σ q <;> simp
  cases op
  case buildSlice t len ps =>
    simp only [act, qv]
    cases bsv P env t len ps <;> simp
  case call c =>
    obtain ⟨callee, args, argTypes⟩ := c
    cases callee with
    | value f => simp [clsOf] at hc
    | invoke r m => simp [clsOf] at hc
    | builtin b => cases b <;> first | (simp [clsOf] at hc; done) | (simp only [act, qv]; exact viaRd _)
  case makeMap t r => cases r <;> simp [clsOf] at hc
  case makeSlice t l c => cases l <;> cases c <;> simp [clsOf] at hc
  all_goals first | (simp [clsOf] at hc; done) | (simp only [act, qv]; exact viaRd _)

theorem qv_st {op : Op} (hc : clsOf op = .quiet) (σ' : St) : qv P env σ op = qv P env σ' op := by
  cases op
  case call c =>
    obtain ⟨callee, args, argTypes⟩ := c
    cases callee with
    | value f => simp [clsOf] at hc
    | invoke r m => simp [clsOf] at hc
    | builtin b => cases b <;> first | (simp [clsOf] at hc; done) | simp only [qv, rd]
  case makeFunc fn first captured => cases fn <;> simp only [qv, rd]
  all_goals first | (simp [clsOf] at hc; done) | simp only [qv, rd]

theorem rd_load_eq (P : Program) (env : Env) (σ : St) (t : TypeId) (x : Operand) {id off : Nat} (hx : opd env x = some (.ptr id off)) : rd P env σ (.load t x) = match tiOf P t, σ id with
    | some ti, some (.cells cs) => lod ti cs off
    | _, _ => none := by
  simp only [rd, hx]
  cases tiOf P t with
  | none => cases σ id <;> rfl
  | some ti => cases hq : σ id with
    | none => simp only [hq]
    | some o => cases o <;> simp only [hq]

theorem rd_lookup_eq (P : Program) (env : Env) (t : TypeId) (m k : Operand) (ok : Bool) {id : Nat} (hx : opd env m = some (.mp id)) : ∃ f : Option AObj → Option AV, f none = none ∧ ∀ σ, rd P env σ (.lookup t m k ok) = f (σ id) := by
  refine ⟨fun o => rd P env (fun _ => o) (.lookup t m k ok), ?_, fun σ => ?_⟩
  · simp only [rd, hx]
    cases tiOf P t with
    | none => cases opd env k <;> rfl
    | some ti =>
      cases opd env k with
      | none => cases ti; rename_i sh; cases sh <;> rfl
      | some key =>
        cases ti; rename_i sh; cases sh <;> try rfl
        rename_i kt et
        simp only
        cases tiOf P kt <;> cases tiOf P et <;> rfl
  · simp only [rd, hx]
    cases tiOf P t with
    | none => cases opd env k <;> rfl
    | some ti =>
      cases opd env k with
      | none => cases ti; rename_i sh; cases sh <;> rfl
      | some key => cases ti; rename_i sh; cases sh <;> rfl

theorem rd_lenMap_eq (P : Program) (env : Env) (args : Array Operand) (argTypes : Array TypeId) {x : Operand} (ha : args.toList = [x]) {id : Nat} (hx : opd env x = some (.mp id)) :
    ∃ f : Option AObj → Option AV, f none = none ∧ ∀ σ, rd P env σ (.call { callee := .builtin .len, args, argTypes }) = f (σ id) := by
  refine ⟨fun o => rd P env (fun _ => o) (.call { callee := .builtin .len, args, argTypes }), ?_, fun σ => ?_⟩
  · simp only [rd, ha]
    cases argTypes.toList with
    | nil => rfl
    | cons t r => cases r with
      | nil =>
        simp only [hx]
        cases tiOf P t with
        | none => rfl
        | some ti => cases ti; rename_i sh; cases sh <;> rfl
      | cons u r => rfl
  · simp only [rd, ha]
    cases argTypes.toList with
    | nil => rfl
    | cons t r => cases r with
      | nil =>
        simp only [hx]
        cases tiOf P t with
        | none => rfl
        | some ti => cases ti; rename_i sh; cases sh <;> rfl
      | cons u r => rfl

theorem qv_reads {op : Op} (hc : clsOf op = .reads) {σ' : St} (h : ∀ id, looks env op = some id → σ' id = σ id) : qv P env σ' op = qv P env σ op := by
  cases op
  case load t x =>
    simp only [qv]
    cases hx : opd env x with
    | none => simp only [rd, hx]; cases tiOf P t <;> rfl
    | some v =>
      cases v <;> first | (simp only [rd, hx]; cases tiOf P t <;> rfl) | skip
      rename_i id off
      rw [rd_load_eq P env σ' t x hx, rd_load_eq P env σ t x hx, h id (by simp [looks, hx])]
  case lookup t m k ok =>
    simp only [qv]
    cases hx : opd env m with
    | none =>
      simp only [rd, hx]
      cases tiOf P t with
      | none => cases opd env k <;> rfl
      | some ti => cases ti; rename_i sh; cases sh <;> cases opd env k <;> rfl
    | some v =>
      cases v <;> first | (simp only [rd, hx]; cases tiOf P t with
        | none => cases opd env k <;> rfl
        | some ti => cases ti; rename_i sh; cases sh <;> cases opd env k <;> rfl) | skip
      rename_i id
      obtain ⟨f, _, hf⟩ := rd_lookup_eq P env t m k ok hx
      rw [hf, hf, h id (by simp [looks, hx])]
  case call c =>
    obtain ⟨callee, args, argTypes⟩ := c
    cases callee with
    | value f => simp [clsOf] at hc
    | invoke r m => simp [clsOf] at hc
    | builtin b =>
      cases b <;> first | (simp [clsOf] at hc; done) | skip
      simp only [qv]
      cases ha : args.toList with
      | nil => simp only [rd, ha]
      | cons x r => cases r with
        | cons y r => simp only [rd, ha]
        | nil =>
          cases hx : opd env x with
          | none => simp only [rd, ha]; split <;> first | rfl | (rename_i y t hy ht; cases hy; simp only [hx]; cases tiOf P t with
              | none => rfl
              | some ti => cases ti; rename_i sh; cases sh <;> rfl)
          | some v =>
            cases v <;> first | (simp only [rd, ha]; split <;> first | rfl | (rename_i y t hy ht; cases hy; simp only [hx]; cases tiOf P t with
              | none => rfl
              | some ti => cases ti; rename_i sh; cases sh <;> rfl)) | skip
            rename_i id
            obtain ⟨f, _, hf⟩ := rd_lenMap_eq P env args argTypes ha hx
            rw [hf, hf, h id (by simp [looks, ha, hx])]
  case makeMap t r => cases r <;> simp [clsOf] at hc
  case makeSlice t l c => cases l <;> cases c <;> simp [clsOf] at hc
  all_goals (simp [clsOf] at hc)

theorem looks_there {op : Op} (hc : clsOf op = .reads) {v : AV} (hv : qv P env σ op = some v) {id : Nat} (h : looks env op = some id) : σ id ≠ none := by
  intro hn
  cases op
  case load t x =>
    simp only [looks] at h
    split at h
    · rename_i i off hx
      cases h
      simp only [qv] at hv
      rw [rd_load_eq P env σ t x hx, hn] at hv
      cases tiOf P t <;> simp at hv
    · cases h
  case lookup t m k ok =>
    simp only [looks] at h
    split at h
    · rename_i i hx
      cases h
      simp only [qv] at hv
      obtain ⟨f, f0, hf⟩ := rd_lookup_eq P env t m k ok hx
      rw [hf, hn, f0] at hv; cases hv
    · cases h
  case call c =>
    obtain ⟨callee, args, argTypes⟩ := c
    cases callee with
    | value f => simp [clsOf] at hc
    | invoke r m => simp [clsOf] at hc
    | builtin b =>
      cases b <;> first | (simp [clsOf] at hc; done) | skip
      simp only [looks] at h
      split at h
      · rename_i x ha
        split at h
        · rename_i i hx
          cases h
          simp only [qv] at hv
          obtain ⟨f, f0, hf⟩ := rd_lenMap_eq P env args argTypes ha hx
          rw [hf, hn, f0] at hv; cases hv
        · cases h
      · cases h
  case makeMap t r => cases r <;> simp [clsOf] at hc
  case makeSlice t l c => cases l <;> cases c <;> simp [clsOf] at hc
  all_goals (simp [clsOf] at hc)

theorem act_alloc_iff {op : Op} {mk : Nat → AV} {ob : AObj} (h : allocOf P op = some (mk, ob)) {K : AV → St → Prop} : act P env σ op K ↔ ∀ id, σ id = none → K (mk id) (σ.set id (some ob)) := by
  cases op
  case alloc t =>
    simp only [allocOf] at h
    split at h
    · rename_i z ht; cases h; simp only [act, ht]
    · cases h
  case makeMap t r =>
    cases r with
    | none => simp only [allocOf] at h; cases h; simp only [act]
    | some r => simp [allocOf] at h
  case makeSlice t l c =>
    cases l <;> cases c <;> simp only [allocOf] at h <;> first | (cases h; done) | skip
    split at h
    · rename_i e n m ht hl hc
      split at h
      · rename_i te
        split at h
        · rename_i hcond
          cases h
          simp only [act, opd, ht, hl, hc, te]
          constructor
          · exact fun hh => hh.2.2.2.2.2.2
          · exact fun hh => ⟨hcond.1, hcond.2.1, hcond.2.2.1, hcond.2.2.2.1, hcond.2.2.2.2.1, hcond.2.2.2.2.2, hh⟩
        · cases h
      · cases h
    · cases h
  all_goals (simp [allocOf] at h)

/-- A working operation does not mind a thing of the store that it isn't told of. -/
theorem act_frame {op : Op} (hc : clsOf op = .work) {K : AV → St → Prop} {id : Nat} {ob : AObj} (h : act P env σ op K) (hid : σ id = none) :
    act P env (σ.set id (some ob)) op fun v σ2 => ∃ σ1 : St, σ1 id = none ∧ σ2 = σ1.set id (some ob) ∧ K v σ1 := by
  have old : ∀ {j : Nat} {o : AObj}, σ j = some o → j ≠ id ∧ (σ.set id (some ob)) j = some o := fun {j o} hj => by
    have hne : j ≠ id := fun hh => by subst hh; rw [hid] at hj; cases hj
    exact ⟨hne, by rw [St.set_ne _ _ hne]; exact hj⟩
  have fresh : ∀ {j : Nat}, (σ.set id (some ob)) j = none → j ≠ id ∧ σ j = none := fun {j} hj => by
    have hne : j ≠ id := fun hh => by subst hh; rw [St.set_same] at hj; cases hj
    exact ⟨hne, by rwa [St.set_ne _ _ hne] at hj⟩
  have put : ∀ {j : Nat} (o : Option AObj), j ≠ id → (σ.set j o) id = none ∧ (σ.set id (some ob)).set j o = (σ.set j o).set id (some ob) := fun {j} o hj =>
    ⟨by rw [St.set_ne _ _ (Ne.symm hj)]; exact hid, St.set_comm _ _ _ (Ne.symm hj)⟩
  cases op
  case box t x =>
    simp only [act] at h ⊢
    split at h
    · exact ⟨h.1, fun j hj => by
        obtain ⟨h1, h2⟩ := fresh hj
        obtain ⟨p1, p2⟩ := put (some (.cells _)) h1
        exact ⟨_, p1, p2, h.2 j h2⟩⟩
    · exact h.elim
  case makeSlice t l c =>
    simp only [act] at h ⊢
    split at h
    · split at h
      · obtain ⟨a1, a2, a3, a4, a5, a6, a7⟩ := h
        exact ⟨a1, a2, a3, a4, a5, a6, fun j hj => by
          obtain ⟨h1, h2⟩ := fresh hj
          obtain ⟨p1, p2⟩ := put (some (.cells _)) h1
          exact ⟨_, p1, p2, a7 j h2⟩⟩
      · exact h.elim
    · exact h.elim
  case store t x y =>
    simp only [act] at h ⊢
    split at h
    · split at h
      · rename_i cs hσ
        obtain ⟨h1, h2⟩ := old hσ
        obtain ⟨a1, a2, a3, a4⟩ := h
        simp only [h2]
        obtain ⟨p1, p2⟩ := put (some (.cells _)) h1
        exact ⟨a1, a2, a3, _, p1, p2, a4⟩
      · exact h.elim
    · exact h.elim
  case mapUpdate t m k x =>
    simp only [act] at h ⊢
    split at h
    · split at h
      · rename_i tk es htk hσ
        obtain ⟨h1, h2⟩ := old hσ
        obtain ⟨a1, a2, a3⟩ := h
        simp only [h2, htk]
        obtain ⟨p1, p2⟩ := put (some (.map _)) h1
        exact ⟨a1, a2, _, p1, p2, a3⟩
      · exact h.elim
    · exact h.elim
  case call c =>
    obtain ⟨callee, args, argTypes⟩ := c
    cases callee with
    | value f =>
      simp only [act] at h ⊢
      split at h
      · exact h.frame hid
      · exact h.elim
    | invoke r m => simp only [act, rd] at h
    | builtin b =>
      cases b
      case append =>
        simp only [act] at h ⊢
        split at h
        · split at h
          · rename_i e sz2 by2 ag2 ze2 e' s1 es tk xv hti htu hs hx
            split at h
            · rename_i te hte
              split at h
              · rename_i ds hds
                obtain ⟨a1, a2, a3, a4, a5, a6, a7⟩ := h
                have hsrc : srcOf (σ.set id (some ob)) te xv = some ds := by
                  rw [← hds]
                  unfold srcOf at hds ⊢
                  cases xv <;> try rfl
                  rename_i j off len cap
                  simp only at hds ⊢
                  cases hj : σ j with
                  | none => rw [hj] at hds; simp at hds
                  | some o => rw [(old hj).2]
                simp only [hsrc]
                refine ⟨a1, a2, a3, a4, a5, fun hd => ⟨σ, hid, rfl, a6 hd⟩, fun hd => ?_⟩
                rcases a7 hd with ⟨b1, b2⟩ | ⟨b1, b2⟩
                case inr =>
                  refine .inr ⟨b1, fun j cap hj hc => ?_⟩
                  obtain ⟨h1, h2⟩ := fresh hj
                  obtain ⟨p1, p2⟩ := put (some (.cells _)) h1
                  exact ⟨_, p1, p2, b2 j cap h2 hc⟩
                refine .inl ?_
                cases tk with
                | no => simp [appendable] at b1
                | full =>
                  refine ⟨rfl, fun j hj => ?_⟩
                  obtain ⟨h1, h2⟩ := fresh hj
                  obtain ⟨p1, p2⟩ := put (some (.tok _ _)) h1
                  exact ⟨_, p1, p2, b2 j h2⟩
                | own i =>
                  simp only [appendable] at b1 ⊢
                  cases hi : σ i with
                  | none => rw [hi] at b1; simp at b1
                  | some o =>
                    rw [hi] at b1
                    obtain ⟨q1, q2⟩ := old hi
                    rw [q2]
                    refine ⟨b1, fun j hj => ?_⟩
                    obtain ⟨h1, h2⟩ := fresh hj
                    refine ⟨_, ?_, ?_, b2 j h2⟩
                    · rw [St.set_ne _ _ (Ne.symm h1)]
                      show (σ.set i none) id = none
                      rw [St.set_ne _ _ (Ne.symm q1)]; exact hid
                    · show ((σ.set id (some ob)).set i none).set j _ = ((σ.set i none).set j _).set id (some ob)
                      rw [St.set_comm σ _ _ (Ne.symm q1), St.set_comm _ _ _ (Ne.symm h1)]
              · exact h.elim
            · exact h.elim
          · exact h.elim
        · exact h.elim
      case delete =>
        simp only [act] at h ⊢
        split at h
        · split at h
          · split at h
            · rename_i tk es htk hσ
              obtain ⟨h1, h2⟩ := old hσ
              obtain ⟨a1, a2, a3⟩ := h
              simp only [h2, htk]
              obtain ⟨p1, p2⟩ := put (some (.map _)) h1
              exact ⟨a1, a2, _, p1, p2, a3⟩
            · exact h.elim
          · exact h.elim
        · exact h.elim
      all_goals first | (simp [clsOf] at hc; done) | (simp only [act, rd] at h)
  case makeMap t r => cases r with
    | none => simp [clsOf] at hc
    | some r => simp only [act, rd] at h
  all_goals first | (simp [clsOf] at hc; done) | (simp only [act, rd] at h)

-- places that an operation does not look at
theorem opd_put {x : Operand} {dst : Option Tmp} {v : AV} (h : ∀ d, dst = some d → x ≠ .tmp d) : opd (env.put dst v) x = opd env x := by
  cases dst with
  | none => rfl
  | some d =>
    cases x with
    | tmp t =>
      have hne : t ≠ d := fun e => h d rfl (e ▸ rfl)
      simp only [opd, Env.put, Env.get_set, if_neg hne]
    | const c => rfl
    | global g => rfl
    | func f => rfl

variable {ops : Array Oper}

theorem opd_apart {o : Oper} {dst : Option Tmp} {v : AV} (h : ∀ d, dst = some d → d ∉ o.looksAt ops) : ∀ x ∈ o.op.operands.toList, opd (env.put dst v) x = opd env x := fun x hx =>
  opd_put fun d hd he => h d hd (by
    subst he
    simp only [Oper.looksAt, List.mem_append, List.mem_filterMap]
    exact .inl ⟨.tmp d, hx, rfl⟩)

theorem act_put {o : Oper} {dst : Option Tmp} {v : AV} {K : AV → St → Prop} (h : ∀ d, dst = some d → d ∉ o.looksAt ops) : act P (env.put dst v) σ o.op K = act P env σ o.op K := act_congr (opd_apart h)

theorem qv_put {o : Oper} {dst : Option Tmp} {v : AV} (h : ∀ d, dst = some d → d ∉ o.looksAt ops) : qv P (env.put dst v) σ o.op = qv P env σ o.op := by
  have hr := rd_congr (P := P) (σ := σ) (opd_apart (ops := ops) (env := env) (v := v) h)
  cases ho : o.op <;> rw [ho] at hr <;> simp only [qv] <;> try exact hr
  rename_i t len ps
  simp only [bsv]
  rw [parts_congr (xs := ps.toList) fun x hx => opd_apart (ops := ops) (env := env) (v := v) h x (by rw [ho]; simpa [Op.operands] using hx)]

theorem guard_put {o : Oper} {dst : Option Tmp} {v : AV} (h : ∀ d, dst = some d → d ∉ o.looksAt ops) : guardA ops (env.put dst v) o = guardA ops env o := by
  unfold guardA
  cases hg : o.guard with
  | none => rfl
  | some q =>
    obtain ⟨j, want⟩ := q
    simp only
    cases hd : (ops[j]?).bind (·.dst) with
    | none => rfl
    | some d =>
      simp only
      cases dst with
      | none => rfl
      | some e =>
        have hne : d ≠ e := fun he => h e rfl (by
          subst he
          simp only [Oper.looksAt, hg, hd, List.mem_append]
          exact .inr (by simp))
        simp only [Env.put, Env.get_set, if_neg hne]

theorem Env.put_comm (env : Env) {x y : Option Tmp} (u v : AV) (h : ∀ d, x = some d → y ≠ some d) : (env.put x u).put y v = (env.put y v).put x u := by
  cases x with
  | none => rfl
  | some d => cases y with
    | none => rfl
    | some e => exact Env.set_comm env u v fun he => h d rfl (he ▸ rfl)

/-- What is watched: of some things of the store, that something holds. -/
def Wat (W : List (Nat × (AObj → Prop))) (σ : St) : Prop := ∀ x ∈ W, ∃ o, σ x.1 = some o ∧ x.2 o

theorem Wat.keep {W : List (Nat × (AObj → Prop))} {σ' : St} (h : Wat W σ) (hk : ∀ id, σ id ≠ none → σ' id = σ id) : Wat W σ' := fun x hx => by
  obtain ⟨o, h1, h2⟩ := h x hx
  exact ⟨o, by rw [hk x.1 (by rw [h1]; simp)]; exact h1, h2⟩

/-- Less may be kept of an operation's value, but for a new thing's name. -/
def Lew (op : Op) (u v : AV) : Prop := Le u v ∧ (clsOf op = .alloc → v = u)

theorem Lew.refl (op : Op) (u : AV) : Lew op u u := ⟨Le.refl u, fun _ => rfl⟩

/-- One operation of a statement whose order is open. The mark: a reading operation's value is told by what is watched; a working one leaves what is watched. -/
def opF (P : Program) (ops : Array Oper) (W : List (Nat × (AObj → Prop))) (i : Nat × Bool) (K : Env → St → Prop) (env : Env) (σ : St) : Prop :=
  match ops[i.1]? with
  | none => False
  | some o => match guardA ops env o with
    | some true => (i.2 = true → Wat W σ ∧ (clsOf o.op = .reads → ∀ σ', Wat W σ' → qv P env σ' o.op = qv P env σ o.op)) ∧ act P env σ o.op fun u σ' => (i.2 = true → Wat W σ') ∧ ∃ v, Lew o.op u v ∧ K (env.put o.dst v) σ'
    | some false => K (env.put o.dst (.tup [])) σ
    | none => False

def drun (P : Program) (ops : Array Oper) (W : List (Nat × (AObj → Prop))) : List (Nat × Bool) → (Env → St → Prop) → Env → St → Prop
  | [], K, env, σ => K env σ
  | i :: L, K, env, σ => opF P ops W i (drun P ops W L K) env σ

variable {W : List (Nat × (AObj → Prop))}

theorem opF_mono {i : Nat × Bool} {K K' : Env → St → Prop} (hk : ∀ e s, K e s → K' e s) (h : opF P ops W i K env σ) : opF P ops W i K' env σ := by
  unfold opF at h ⊢
  split at h
  · exact h.elim
  · split at h
    · exact ⟨h.1, act_mono (fun v s hh => ⟨hh.1, hh.2.imp fun _ hv => ⟨hv.1, hk _ _ hv.2⟩⟩) h.2⟩
    · exact hk _ _ h
    · exact h.elim

/-- What is known of the store behind an operation. -/
def Facts (W : List (Nat × (AObj → Prop))) (c : Cl) (f : Bool) (σ σ' : St) : Prop :=
  match c with
  | .quiet | .reads => σ' = σ
  | .alloc => ∀ id, σ id ≠ none → σ' id = σ id
  | .work => f = true → Wat W σ'

theorem opF_strong {j : Nat} {f : Bool} {o : Oper} (ho : ops[j]? = some o) (ha : clsOf o.op = .alloc → (allocOf P o.op).isSome = true) {K K' : Env → St → Prop} (h : opF P ops W (j, f) K env σ)
    (hk : ∀ u s, Facts W (clsOf o.op) f σ s ∨ s = σ → K (env.put o.dst u) s → K' (env.put o.dst u) s) : opF P ops W (j, f) K' env σ := by
  unfold opF at h ⊢
  simp only [ho] at h ⊢
  split at h
  · refine ⟨h.1, ?_⟩
    cases hc : clsOf o.op with
    | quiet =>
      rw [act_quiet (.inl hc)] at h ⊢
      obtain ⟨_, u, hu, h1, v, hl, h2⟩ := h
      exact ⟨u, hu, h1, v, hl, hk v σ (.inr rfl) h2⟩
    | reads =>
      rw [act_quiet (.inr hc)] at h ⊢
      obtain ⟨_, u, hu, h1, v, hl, h2⟩ := h
      exact ⟨u, hu, h1, v, hl, hk v σ (.inr rfl) h2⟩
    | alloc =>
      obtain ⟨⟨mk, ob⟩, hm⟩ := Option.isSome_iff_exists.1 (ha hc)
      rw [act_alloc_iff hm] at h ⊢
      intro id hid
      obtain ⟨h1, v, hl, h2⟩ := h.2 id hid
      refine ⟨h1, v, hl, hk _ _ (.inl ?_) h2⟩
      rw [hc]
      exact fun k hk => St.set_ne _ _ fun hh => hk (hh ▸ hid)
    | work => exact act_mono (fun u s hh => ⟨hh.1, hh.2.imp fun v hv => ⟨hv.1, hk v s (.inl (by rw [hc]; exact hh.1)) hv.2⟩⟩) h.2
  · exact hk _ _ (.inr rfl) h
  · exact h.elim

/-- Slots that an operation neither looks at nor writes may be written ahead of it or behind it. -/
theorem opF_put {j : Nat} {f : Bool} {o : Oper} (ho : ops[j]? = some o) {dst : Option Tmp} {v : AV} (h1 : ∀ d, dst = some d → d ∉ o.looksAt ops) (h2 : ∀ d, dst = some d → o.dst ≠ some d) {K : Env → St → Prop}
    : opF P ops W (j, f) K (env.put dst v) σ ↔ opF P ops W (j, f) (fun e s => K (e.put dst v) s) env σ := by
  unfold opF
  simp only [ho, guard_put h1, qv_put h1, act_put h1]
  have e : ∀ u, (env.put dst v).put o.dst u = (env.put o.dst u).put dst v := fun u => Env.put_comm env v u h2
  simp only [e]

end Go.Am
