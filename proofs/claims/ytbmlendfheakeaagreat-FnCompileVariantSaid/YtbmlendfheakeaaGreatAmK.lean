/-
  Statements whose order Go leaves open: one order for all.
-/
import Derived.Test.YtbmlendfheakeaaGreatAmJ
namespace Go.Am

variable {P : Program} {env env' : Env} {σ : St} {ops : Array Oper} {W : List (Nat × (AObj → Prop))}

/-- An operation ahead of another that doesn't wait for it: may they change places? -/
def allowed (c : Cl) (f : Bool) (c' : Cl) (f' : Bool) : Bool :=
  match c, c' with
  | .quiet, _ => !f
  | .reads, .work => f && f'
  | .reads, _ => true
  | .work, .alloc => true
  | .alloc, .alloc => true
  | _, _ => false

/-- An allocation is known ahead of the run, is not guarded, bears no mark. -/
def AllocOk (P : Program) (o : Oper) (f : Bool) : Prop := clsOf o.op = .alloc → (allocOf P o.op).isSome = true ∧ o.guard = none ∧ f = false

theorem opF_alloc {j : Nat} {f : Bool} {o : Oper} (ho : ops[j]? = some o) (hc : clsOf o.op = .alloc) (ha : AllocOk P o f) : ∃ (mk : Nat → AV) (ob : AObj), ∀ (env : Env) (σ : St) (K : Env → St → Prop), opF P ops W (j, f) K env σ ↔ ∀ id, σ id = none → K (env.put o.dst (mk id)) (σ.set id (some ob)) := by
  obtain ⟨h1, h2, h3⟩ := ha hc
  obtain ⟨⟨mk, ob⟩, hm⟩ := Option.isSome_iff_exists.1 h1
  refine ⟨mk, ob, fun env σ K => ?_⟩
  unfold opF
  simp only [ho, guardA, h2, h3]
  rw [act_alloc_iff hm]
  constructor
  · intro h id hid
    obtain ⟨_, v, hl, hk⟩ := h.2 id hid
    rwa [hl.2 hc] at hk
  · exact fun h => ⟨fun hf => by simp at hf, fun id hid => ⟨fun hf => by simp at hf, _, Lew.refl _ _, h id hid⟩⟩

theorem opF_def {i : Nat × Bool} {o : Oper} (ho : ops[i.1]? = some o) {K : Env → St → Prop} : opF P ops W i K env σ = match guardA ops env o with
    | some true => (i.2 = true → Wat W σ ∧ (clsOf o.op = .reads → ∀ σ', Wat W σ' → qv P env σ' o.op = qv P env σ o.op)) ∧ act P env σ o.op fun u σ' => (i.2 = true → Wat W σ') ∧ ∃ v, Lew o.op u v ∧ K (env.put o.dst v) σ'
    | some false => K (env.put o.dst (.tup [])) σ
    | none => False := by
  unfold opF; simp only [ho]
  cases guardA ops env o with
  | none => rfl
  | some b => cases b <;> rfl

theorem swap {p j : Nat × Bool} {op oj : Oper} (hp : ops[p.1]? = some op) (hj : ops[j.1]? = some oj) (hap : op.apart ops oj = true) (hal : allowed (clsOf op.op) p.2 (clsOf oj.op) j.2 = true) (h1a : AllocOk P op p.2) (h2a : AllocOk P oj j.2) {K : Env → St → Prop}
    (h : opF P ops W p (opF P ops W j K) env σ) : opF P ops W j (opF P ops W p K) env σ := by
  obtain ⟨pi, pf⟩ := p
  obtain ⟨ji, jf⟩ := j
  simp only at hp hj hal
  obtain ⟨a1, a2, a3⟩ := Oper.apart_spec hap
  have a2' : ∀ d, oj.dst = some d → op.dst ≠ some d := fun d hd hh => a2 d hh hd
  -- the one that goes second reads a value that stays
  have viaVal : ∀ v, opF P ops W (ji, jf) K (env.put op.dst v) σ → (∀ u s, Facts W (clsOf oj.op) jf σ s ∨ s = σ → K ((env.put oj.dst u).put op.dst v) s → opF P ops W (pi, pf) K (env.put oj.dst u) s) →
      opF P ops W (ji, jf) (opF P ops W (pi, pf) K) env σ := fun v hv hk => by
    rw [opF_put hj a1 a2] at hv
    exact opF_strong hj (fun hc => (h2a hc).1) hv hk
  have hg : ∀ u, guardA ops (env.put oj.dst u) op = guardA ops env op := fun u => guard_put a3
  have h0 := h
  rw [opF_def hp] at h
  split at h
  · rename_i hgt
    obtain ⟨hl, h⟩ := h
    have quietCase : (clsOf op.op = .quiet ∨ clsOf op.op = .reads) → opF P ops W (ji, jf) (opF P ops W (pi, pf) K) env σ := fun hc => by
      rw [act_quiet hc] at h
      obtain ⟨v0, hv, _, v, hle, hK⟩ := h
      refine viaVal v hK fun u s hs hKs => ?_
      rw [opF_def hp, hg, hgt]
      simp only
      -- what is watched is there still
      have hwat : pf = true → Wat W s := fun hf => by
        have h0 := (hl hf).1
        rcases hs with hs | rfl
        · cases hcj : clsOf oj.op with
          | quiet => rw [hcj] at hs; rw [show s = σ from hs]; exact h0
          | reads => rw [hcj] at hs; rw [show s = σ from hs]; exact h0
          | alloc => rw [hcj] at hs; exact h0.keep hs
          | work =>
            rw [hcj] at hs
            rcases hc with hc | hc
            · rw [hc] at hal; simp [allowed, hf] at hal
            · rw [hc, hcj] at hal
              simp only [allowed, Bool.and_eq_true] at hal
              exact hs hal.2
        · exact h0
      have hsame : qv P env s op.op = qv P env σ op.op := by
        rcases hc with hc | hc
        · exact qv_st hc σ
        · rcases hs with hs | rfl
          · cases hcj : clsOf oj.op with
            | quiet => rw [hcj] at hs; rw [show s = σ from hs]
            | reads => rw [hcj] at hs; rw [show s = σ from hs]
            | alloc => rw [hcj] at hs; exact qv_reads hc fun id hid => hs id (looks_there hc hv hid)
            | work =>
              rw [hc, hcj] at hal
              simp only [allowed, Bool.and_eq_true] at hal
              exact (hl hal.1).2 hc s (hwat hal.1)
          · rfl
      refine ⟨fun hf => ⟨hwat hf, fun hr s' hw => ?_⟩, ?_⟩
      · rw [qv_put a3, qv_put a3, hsame]; exact (hl hf).2 hr s' hw
      rw [act_quiet hc]
      refine ⟨v0, ?_, fun hf => hwat hf, v, hle, hKs⟩
      rw [qv_put a3, hsame]; exact hv
    cases hc : clsOf op.op with
    | quiet => exact quietCase (.inl hc)
    | reads => exact quietCase (.inr hc)
    | work =>
      have hcj : clsOf oj.op = .alloc := by
        rw [hc] at hal
        cases hcj : clsOf oj.op <;> rw [hcj] at hal <;> simp [allowed] at hal ⊢
      obtain ⟨mk, ob, hiff⟩ := opF_alloc (W := W) hj hcj h2a
      rw [hiff]
      intro id hid
      rw [opF_def hp, hg, hgt]
      simp only
      refine ⟨fun hf => ⟨(hl hf).1.keep fun k hk => St.set_ne _ _ fun hh => hk (hh ▸ hid), fun hr => by rw [hc] at hr; cases hr⟩, ?_⟩
      rw [act_put a3]
      refine act_mono ?_ (act_frame hc h hid)
      rintro u s ⟨s1, b1, rfl, b2, v, hle, b3⟩
      refine ⟨fun hf => (b2 hf).keep fun k hk => St.set_ne _ _ fun hh => hk (hh ▸ b1), v, hle, ?_⟩
      · rw [hiff] at b3
        have := b3 id b1
        rwa [Env.put_comm env v (mk id) a2] at this
    | alloc =>
      have hcj : clsOf oj.op = .alloc := by
        rw [hc] at hal
        cases hcj : clsOf oj.op <;> rw [hcj] at hal <;> simp [allowed] at hal ⊢
      obtain ⟨mk, ob, hiff⟩ := opF_alloc (W := W) hj hcj h2a
      obtain ⟨mk', ob', hiff'⟩ := opF_alloc (W := W) hp hc h1a
      rw [hiff'] at h0
      rw [hiff]
      intro id hid
      rw [hiff']
      intro id' hid'
      have hne : id' ≠ id := fun hh => by subst hh; rw [St.set_same] at hid'; cases hid'
      rw [St.set_ne _ _ hne] at hid'
      have := h0 id' hid'
      rw [hiff] at this
      have := this id (by rw [St.set_ne _ _ (Ne.symm hne)]; exact hid)
      rwa [Env.put_comm env (mk' id') (mk id) a2, St.set_comm _ _ _ hne] at this
  · rename_i hgf
    refine viaVal (.tup []) h fun u s _ hKs => ?_
    rw [opF_def hp, hg, hgf]
    exact hKs
  · exact h.elim

/-- In the order that is told, one ahead of another: the first doesn't wait for the second; the second waits for the first, or they may change places. -/
def okPair (ops : Array Oper) (b : Array Nat) (p j : Nat × Bool) : Bool :=
  match ops[p.1]?, ops[j.1]? with
  | some op, some oj => !((b.getD p.1 0).testBit j.1) && ((b.getD j.1 0).testBit p.1 || (op.apart ops oj && allowed (clsOf op.op) p.2 (clsOf oj.op) j.2))
  | _, _ => false

def okPairs (ops : Array Oper) (b : Array Nat) : List (Nat × Bool) → Bool
  | [] => true
  | p :: L => L.all (okPair ops b p) && okPairs ops b L

def okAllocs (ops : Array Oper) (L : List (Nat × Bool)) : Bool := L.all fun p => match ops[p.1]? with
  | some o => clsOf o.op != .alloc || (o.guard.isNone && !p.2)
  | none => false

def okDeps (ops : Array Oper) : List Nat → List (Nat × Bool) → Bool
  | _, [] => true
  | seen, p :: L => (match ops[p.1]? with
    | some o => o.after.all fun e => !Region.binds .any e || seen.contains e.on
    | none => false) && okDeps ops (p.1 :: seen) L

def distinct : List Nat → Bool
  | [] => true
  | i :: L => !L.contains i && distinct L

/-- Each operation just once, each behind what it waits for. -/
def okOrder (ops : Array Oper) (L : List (Nat × Bool)) : Bool :=
  L.length == ops.size && (List.range ops.size).all (fun i => (L.map Prod.fst).contains i) && distinct (L.map Prod.fst) && okDeps ops [] L && okAllocs ops L && okPairs ops (Region.before ops) L

/-- What one waits for has been done, or stands ahead of it. -/
def Fed (ops : Array Oper) (listed : Array Bool) (L : List (Nat × Bool)) : Prop := ∀ pre p post, L = pre ++ p :: post → ∀ o, ops[p.1]? = some o → ∀ e ∈ o.after, Region.binds .any e = true → listed.getD e.on false = true ∨ e.on ∈ pre.map Prod.fst

theorem okDeps_spec : ∀ {L : List (Nat × Bool)} {seen : List Nat}, okDeps ops seen L = true → ∀ pre p post, L = pre ++ p :: post → ∀ o, ops[p.1]? = some o → ∀ e ∈ o.after, Region.binds .any e = true → e.on ∈ seen ∨ e.on ∈ pre.map Prod.fst
  | [], _, _, pre, p, post, h, _, _, _, _, _ => by simp at h
  | q :: L, seen, hk, pre, p, post, h, o, ho, e, he, hb => by
    simp only [okDeps, Bool.and_eq_true] at hk
    cases pre with
    | nil =>
      simp only [List.nil_append, List.cons.injEq] at h
      obtain ⟨rfl, rfl⟩ := h
      rw [ho] at hk
      have := Array.all_eq_true_iff_forall_mem.1 hk.1 e he
      simp only [hb, Bool.not_true, Bool.false_or, List.contains_iff_mem] at this
      exact .inl this
    | cons r pre =>
      simp only [List.cons_append, List.cons.injEq] at h
      obtain ⟨rfl, rfl⟩ := h
      rcases okDeps_spec hk.2 pre p post rfl o ho e he hb with h | h
      · simp only [List.mem_cons] at h
        rcases h with h | h
        · exact .inr (by simp [h])
        · exact .inl h
      · exact .inr (by simp only [List.map_cons, List.mem_cons]; exact .inr h)

theorem Fed.step {listed : Array Bool} {pre0 post0 : List (Nat × Bool)} {i : Nat × Bool} (hlt : i.1 < listed.size) (h : Fed ops listed (pre0 ++ i :: post0)) : Fed ops (listed.setIfInBounds i.1 true) (pre0 ++ post0) := by
  intro pre p post he o ho e hee hb
  have here : (listed.setIfInBounds i.1 true).getD i.1 false = true := by simp [hlt]
  rcases List.append_eq_append_iff.1 he with ⟨c, h1, h2⟩ | ⟨c, h1, h2⟩
  · subst h1
    rcases h (pre0 ++ i :: c) p post (by rw [h2]; simp) o ho e hee hb with hh | hh
    · exact .inl (getD_set_true hh)
    · simp only [List.map_append, List.map_cons, List.mem_append, List.mem_cons] at hh ⊢
      rcases hh with hh | hh | hh
      · exact .inr (.inl hh)
      · rw [hh]; exact .inl here
      · exact .inr (.inr hh)
  · cases c with
    | nil =>
      simp only [List.append_nil, List.nil_append] at h1 h2
      subst h1
      rcases h (pre0 ++ [i]) p post (by rw [← h2]; simp) o ho e hee hb with hh | hh
      · exact .inl (getD_set_true hh)
      · simp only [List.map_append, List.map_cons, List.map_nil, List.mem_append, List.mem_cons, List.not_mem_nil, or_false] at hh
        rcases hh with hh | hh
        · exact .inr hh
        · rw [hh]; exact .inl here
    | cons q c =>
      simp only [List.cons_append, List.cons.injEq] at h2
      obtain ⟨rfl, h2⟩ := h2
      rcases h pre p (c ++ i :: post0) (by rw [h1]; simp) o ho e hee hb with hh | hh
      · exact .inl (getD_set_true hh)
      · exact .inr hh

theorem drun_front {j : Nat × Bool} {K : Env → St → Prop} (hj : ∃ oj, ops[j.1]? = some oj ∧ AllocOk P oj j.2) : ∀ (pre post : List (Nat × Bool)) {env : Env} {σ : St},
    (∀ p ∈ pre, ∃ op oj, ops[p.1]? = some op ∧ ops[j.1]? = some oj ∧ op.apart ops oj = true ∧ allowed (clsOf op.op) p.2 (clsOf oj.op) j.2 = true ∧ AllocOk P op p.2) →
    drun P ops W (pre ++ j :: post) K env σ → opF P ops W j (drun P ops W (pre ++ post) K) env σ
  | [], post, env, σ, _, h => h
  | p :: pre, post, env, σ, hp, h => by
    obtain ⟨oj, hoj, haj⟩ := hj
    obtain ⟨op, oj', h1, h2, h3, h4, h5⟩ := hp p (by simp)
    rw [hoj] at h2; cases h2
    have h' : opF P ops W p (opF P ops W j (drun P ops W (pre ++ post) K)) env σ :=
      opF_mono (fun e s hh => drun_front ⟨oj, hoj, haj⟩ pre post (fun q hq => hp q (by simp [hq])) hh) h
    exact swap h1 hoj h3 h4 h5 haj h'

theorem foldl_bits (m : Region.Mode) (acc : Array Nat) (i : Nat) : ∀ (es : List Edge) (s : Nat), (es.foldl (fun s e => if Region.binds m e then s ||| 2 ^ e.on ||| acc.getD e.on 0 else s) s).testBit i = true →
    s.testBit i = true ∨ ∃ e ∈ es, Region.binds m e = true ∧ (e.on = i ∨ (acc.getD e.on 0).testBit i = true)
  | [], s, h => .inl h
  | e :: es, s, h => by
    simp only [List.foldl_cons] at h
    rcases foldl_bits m acc i es _ h with h1 | ⟨e', he', hb, hh⟩
    · split at h1
      · rename_i hb
        simp only [Nat.testBit_or, Bool.or_eq_true] at h1
        rcases h1 with (h1 | h1) | h1
        · exact .inl h1
        · rw [Nat.testBit_two_pow] at h1
          exact .inr ⟨e, by simp, hb, .inl (by simpa using h1)⟩
        · exact .inr ⟨e, by simp, hb, .inr h1⟩
      · exact .inl h1
    · exact .inr ⟨e', by simp [he'], hb, hh⟩

/-- What an operation waits for, it waits for by a row of edges. -/
theorem before_foldl (ops : List Oper) : ∀ (acc : Array Nat) (done : List Oper), acc.size = done.length →
    (∀ j i, (acc.getD j 0).testBit i = true → ∃ o, done[j]? = some o ∧ ∃ e ∈ o.after, Region.binds .any e = true ∧ (e.on = i ∨ ((acc.getD e.on 0).testBit i = true ∧ e.on < j))) →
    ∀ j i, ((ops.foldl (fun (acc : Array Nat) o => acc.push (o.after.foldl (fun s e => if Region.binds .any e then s ||| 2 ^ e.on ||| acc.getD e.on 0 else s) 0)) acc).getD j 0).testBit i = true →
      ∃ o, (done ++ ops)[j]? = some o ∧ ∃ e ∈ o.after, Region.binds .any e = true ∧
        (e.on = i ∨ (((ops.foldl (fun (acc : Array Nat) o => acc.push (o.after.foldl (fun s e => if Region.binds .any e then s ||| 2 ^ e.on ||| acc.getD e.on 0 else s) 0)) acc).getD e.on 0).testBit i = true ∧ e.on < j)) := by
  induction ops with
  | nil => intro acc done _ h j i hj; simpa using h j i hj
  | cons o ops ih =>
    intro acc done hsz h j i hj
    simp only [List.foldl_cons] at hj ⊢
    have := ih (acc.push (o.after.foldl (fun s e => if Region.binds .any e then s ||| 2 ^ e.on ||| acc.getD e.on 0 else s) 0)) (done ++ [o]) (by simp [hsz]) ?_ j i hj
    · simpa using this
    · intro j i hj
      have small : ∀ k, (acc.getD k 0).testBit i = true → k < acc.size := fun k hk => by
        rcases Nat.lt_or_ge k acc.size with h | h
        · exact h
        · simp [Array.getD_eq_getD_getElem?, Array.getElem?_eq_none h] at hk
      have keep : ∀ k, (acc.getD k 0).testBit i = true → ((acc.push (o.after.foldl (fun s e => if Region.binds .any e then s ||| 2 ^ e.on ||| acc.getD e.on 0 else s) 0)).getD k 0).testBit i = true := fun k hk => by
        have hlt := small k hk
        simp only [Array.getD_eq_getD_getElem?] at hk ⊢
        rw [Array.getElem?_push_lt hlt]
        simpa [hlt] using hk
      by_cases hlt : j < acc.size
      · have hj' : (acc.getD j 0).testBit i = true := by
          simp only [Array.getD_eq_getD_getElem?, Array.getElem?_push_lt hlt] at hj ⊢
          simpa [hlt] using hj
        obtain ⟨p, hp, e, he, hb, hh⟩ := h j i hj'
        refine ⟨p, ?_, e, he, hb, hh.imp id fun q => ⟨keep _ q.1, q.2⟩⟩
        rw [List.getElem?_append_left (by omega)]; exact hp
      · by_cases heq : j = acc.size
        · subst heq
          have e0 : ∀ X : Nat, (acc.push X).getD acc.size 0 = X := fun X => by simp [Array.getD_eq_getD_getElem?]
          rw [e0, ← Array.foldl_toList] at hj
          rcases foldl_bits .any acc i _ _ hj with h0 | ⟨e, he, hb, hh⟩
          · simp at h0
          · refine ⟨o, by rw [hsz]; simp, e, by simpa using he, hb, hh.imp id fun q => ⟨keep _ q, small _ q⟩⟩
        · simp only [Array.getD_eq_getD_getElem?] at hj
          rw [Array.getElem?_eq_none (by simp; omega)] at hj
          simp at hj

/-- What an operation waits for, it waits for by a row of edges. -/
theorem before_spec (ops : Array Oper) (j i : Nat) (h : ((Region.before ops).getD j 0).testBit i = true) : ∃ o, ops[j]? = some o ∧ ∃ e ∈ o.after, Region.binds .any e = true ∧ (e.on = i ∨ (((Region.before ops).getD e.on 0).testBit i = true ∧ e.on < j)) := by
  unfold Region.before at h ⊢
  rw [← Array.foldl_toList] at h ⊢
  have := before_foldl ops.toList #[] [] rfl (fun j i hj => by simp at hj) j i h
  simpa using this

/-- All that has been done has had all that it waits for done before. -/
def Shut (ops : Array Oper) (listed : Array Bool) : Prop := ∀ j o, ops[j]? = some o → listed.getD j false = true → ∀ e ∈ o.after, Region.binds .any e = true → listed.getD e.on false = true

theorem waits_listed {listed : Array Bool} (hs : Shut ops listed) : ∀ (j i : Nat), ((Region.before ops).getD j 0).testBit i = true → (∀ o, ops[j]? = some o → ∀ e ∈ o.after, Region.binds .any e = true → listed.getD e.on false = true) → listed.getD i false = true := by
  intro j
  induction j using Nat.strongRecOn with
  | _ j ih =>
    intro i hi hd
    obtain ⟨o, ho, e, he, hb, hh⟩ := before_spec ops j i hi
    have h1 := hd o ho e he hb
    rcases hh with rfl | ⟨hh, hlt⟩
    · exact h1
    · exact ih e.on hlt i hh fun p hp e' he' hb' => hs e.on p hp h1 e' he' hb'

theorem okPairs_spec {b : Array Nat} : ∀ {L : List (Nat × Bool)}, okPairs ops b L = true → L.Pairwise fun p j => okPair ops b p j = true
  | [], _ => .nil
  | p :: L, h => by
    simp only [okPairs, Bool.and_eq_true] at h
    exact .cons (fun j hj => List.all_eq_true.1 h.1 j hj) (okPairs_spec h.2)

theorem drun_any {Q : Exit → Act → World → Prop} : ∀ (n : Nat) (L : List (Nat × Bool)) (listed : Array Bool) {K : Env → St → Prop} {Γ : Gh} {env : Env} {σ : St} {a : Act} {w : World}, L.length = n → listed.size = ops.size →
    (∀ j, j < ops.size → (listed.getD j true = false ↔ j ∈ L.map Prod.fst)) → (∀ p ∈ L, ∃ o, ops[p.1]? = some o ∧ AllocOk P o p.2) → (L.map Prod.fst).Nodup → (L.Pairwise fun p j => okPair ops (Region.before ops) p j = true) → Shut ops listed → Fed ops listed L →
    drun P ops W L K env σ → EnvRel Γ env a → Rel σ Γ w → (∀ o ∈ ops.toList, ∀ k, o.dst = some k → k < a.tmps.size) →
    (∀ env' σ' Γ' a' w', Step Γ σ w Γ' σ' w' → EnvRel Γ' env' a' → a'.tmps.size = a.tmps.size → a'.defers = a.defers → K env' σ' → Q .normal a' w') →
    wpAny P .any ops Q n listed a w := by
  intro n
  induction n with
  | zero =>
    intro L listed K Γ env σ a w hlen hsz hin _ _ _ _ _ h he hr _ hQ
    have hL : L = [] := List.length_eq_zero_iff.1 hlen
    subst hL
    refine ⟨?_, hQ env σ Γ a w (Step.refl hr) he rfl rfl h⟩
    cases hrd : Region.ready .any ops listed with
    | nil => rfl
    | cons j r =>
      have hj : j ∈ Region.ready .any ops listed := by rw [hrd]; simp
      obtain ⟨h1, o, h2, _⟩ := mem_ready.1 hj
      have hlt : j < ops.size := by
        rcases Nat.lt_or_ge j ops.size with h | h
        · exact h
        · rw [Array.getElem?_eq_none h] at h2; cases h2
      exact absurd ((hin j hlt).1 h1) (by simp)
  | succ n ih =>
    intro L listed K Γ env σ a w hlen hsz hin hall hnd hpw hshut hfed h he hr hd hQ
    have lt_of : ∀ {j : Nat} {o : Oper}, ops[j]? = some o → j < ops.size := fun {j o} hj => by
      rcases Nat.lt_or_ge j ops.size with h | h
      · exact h
      · rw [Array.getElem?_eq_none h] at hj; cases hj
    have listed_iff : ∀ {j : Nat}, j < ops.size → j ∉ L.map Prod.fst → listed.getD j false = true := fun {j} hj hn => by
      have := mt (hin j hj).1 hn
      simp only [Array.getD_eq_getD_getElem?] at this ⊢
      have hlt : j < listed.size := by omega
      simpa [hlt] using this
    refine ⟨fun hrd => ?_, fun i hi => ?_⟩
    · -- the head is ready
      cases L with
      | nil => simp at hlen
      | cons p t =>
        exfalso
        obtain ⟨o, ho, _⟩ := hall p (by simp)
        have : p.1 ∈ Region.ready .any ops listed := by
          rw [mem_ready]
          refine ⟨(hin p.1 (lt_of ho)).2 (by simp), o, ho, fun e he' hb => ?_⟩
          rcases hfed [] p t rfl o ho e he' hb with h | h
          · exact h
          · simp at h
        rw [hrd] at this; cases this
    · obtain ⟨h1, oi, hoi, hdeps⟩ := mem_ready.1 hi
      have hmem := (hin i (lt_of hoi)).1 h1
      obtain ⟨⟨i', f⟩, hp, rfl⟩ := List.mem_map.1 hmem
      obtain ⟨pre, post, rfl⟩ := List.append_of_mem hp
      obtain ⟨o', ho', hao⟩ := hall _ hp
      have hnot : ∀ p ∈ pre, ∃ op oj, ops[p.1]? = some op ∧ ops[i']? = some oj ∧ op.apart ops oj = true ∧ allowed (clsOf op.op) p.2 (clsOf oj.op) f = true ∧ AllocOk P op p.2 := fun p hpp => by
        obtain ⟨op, hop, hap⟩ := hall p (by simp [hpp])
        have hpair := List.pairwise_append.1 hpw
        have hk := hpair.2.2 p hpp (i', f) (by simp)
        simp only [okPair, hop, ho', Bool.and_eq_true, Bool.or_eq_true] at hk
        rcases hk.2 with hw | ⟨h2, h3⟩
        · exfalso
          have hl := waits_listed hshut i' p.1 hw fun o hoo e hee hb => by
            rw [hoi] at hoo; cases hoo; exact hdeps e hee hb
          have hun := (hin p.1 (lt_of hop)).2 (by simp only [List.map_append, List.mem_append]; exact .inl (List.mem_map_of_mem hpp))
          have hlt : p.1 < listed.size := by rw [hsz]; exact lt_of hop
          simp only [Array.getD_eq_getD_getElem?] at hl hun
          simp [hlt] at hl hun
          rw [hl] at hun; cases hun
        · exact ⟨op, o', hop, ho', h2, h3, hap⟩
      have hfront := drun_front ⟨o', ho', hao⟩ pre post hnot h
      have hsub : (pre ++ post).Sublist (pre ++ (i', f) :: post) := List.Sublist.append_left (List.sublist_cons_self _ _) _
      have hndm : i' ∉ (pre ++ post).map Prod.fst := by
        have h2 := hnd
        simp only [List.map_append, List.map_cons] at h2 ⊢
        rw [List.nodup_append] at h2
        obtain ⟨_, h3, h4⟩ := h2
        simp only [List.mem_append, not_or]
        exact ⟨fun hm => h4 _ hm i' (by simp) rfl, (List.nodup_cons.1 h3).1⟩
      have cont : ∀ {Γ' : Gh} {env' : Env} {σ' : St} {a' : Act} {w' : World}, Step Γ σ w Γ' σ' w' → EnvRel Γ' env' a' → a'.tmps.size = a.tmps.size → a'.defers = a.defers → drun P ops W (pre ++ post) K env' σ' →
          wpAny P .any ops Q n (listed.setIfInBounds i' true) a' w' := fun {Γ' env' σ' a' w'} hs he' hz hdf hK => by
        refine ih (pre ++ post) _ (by simp at hlen ⊢; omega) (by simp [hsz]) (fun j hj => ?_) (fun p hpp => hall p (hsub.subset hpp)) ((hsub.map Prod.fst).nodup hnd) (hpw.sublist hsub) ?_ (hfed.step (i := (i', f)) (by rw [hsz]; exact lt_of ho')) hK he' hs.rel (fun o ho k hk => by rw [hz]; exact hd o ho k hk)
          (fun env2 σ2 Γ2 a2 w2 b1 b2 b3 b4 b5 => hQ env2 σ2 Γ2 a2 w2 (hs.trans b1) b2 (b3.trans hz) (b4.trans hdf) b5)
        · by_cases hji : j = i'
          · subst hji
            constructor
            · intro hh
              have hlt : j < listed.size := by omega
              simp [hlt] at hh
            · intro hh; exact absurd hh hndm
          · rw [getD_set_ne true (Ne.symm hji), hin j hj]
            simp only [List.map_append, List.map_cons, List.mem_append, List.mem_cons]
            constructor
            · rintro (h | h | h)
              · exact .inl h
              · exact absurd h hji
              · exact .inr h
            · rintro (h | h)
              · exact .inl h
              · exact .inr (.inr h)
        · intro j o hj hl e hee hb
          by_cases hji : j = i'
          · subst hji
            rw [hoi] at hj; cases hj
            exact getD_set_true (hdeps e hee hb)
          · rw [getD_set_ne false (Ne.symm hji)] at hl
            exact getD_set_true (hshut j o hj hl e hee hb)
      rw [opF_def ho'] at hfront
      unfold wpOp
      simp only [ho']
      have hdo : ∀ k, o'.dst = some k → k < a.tmps.size := hd o' (by simpa using Array.mem_of_getElem? ho')
      have hdefs : ∀ v, (a.put o'.dst v).defers = a.defers := fun v => by cases o'.dst <;> rfl
      split at hfront
      · rename_i hg
        have hw := guardA_sound he hg
        rw [if_pos hw]
        refine .inl (act_sound he hr hfront.2 _ _ fun cv w' u σ' Γ' hs hv hK => ?_)
        obtain ⟨_, v, hle, hK⟩ := hK
        exact cont hs ((he.ext hs.ext).put (hle.1 _ _ hv) hdo) (put_size _ _ _) (hdefs _) hK
      · rename_i hg
        have hw := guardA_sound he hg
        rw [if_neg (by rw [hw]; simp)]
        exact cont (Step.refl hr) (he.put (v := .tup []) (cv := undef) (by simp only [VR]; exact ⟨[], rfl, VRL.nil⟩) hdo) (put_size _ _ _) (hdefs _) hfront
      · exact hfront.elim

theorem distinct_spec : ∀ {L : List Nat}, distinct L = true → L.Nodup
  | [], _ => .nil
  | i :: L, h => by
    simp only [distinct, Bool.and_eq_true, Bool.not_eq_true', List.contains_eq_mem, decide_eq_false_iff_not] at h
    exact List.nodup_cons.2 ⟨h.1, distinct_spec h.2⟩

/-- A statement whose order is open: the order that it may be run in here, and the things of the store that it may only read. -/
def DrawA (P : Program) (ops : Array Oper) (K : Env → St → Prop) (env : Env) (σ : St) : Prop :=
  ∃ (L : List (Nat × Bool)) (W : List (Nat × (AObj → Prop))), okOrder ops L = true ∧ (∀ o ∈ ops.toList, clsOf o.op = .alloc → (allocOf P o.op).isSome = true) ∧ drun P ops W L K env σ

theorem drawA_sound {Q : Exit → Act → World → Prop} {id : Nat} {K : Env → St → Prop} {Γ : Gh} {a : Act} {w : World} (hm : P.follows .mixedOrders = true) (h : DrawA P ops K env σ) (he : EnvRel Γ env a) (hr : Rel σ Γ w) (hd : ∀ o ∈ ops.toList, ∀ k, o.dst = some k → k < a.tmps.size)
    (hQ : ∀ env' σ' Γ' a' w', Step Γ σ w Γ' σ' w' → EnvRel Γ' env' a' → a'.tmps.size = a.tmps.size → a'.defers = a.defers → K env' σ' → Q .normal a' w') : (Code.region id ops true).wp P Q a w := by
  obtain ⟨L, W, hok, hal, hrun⟩ := h
  simp only [okOrder, Bool.and_eq_true] at hok
  obtain ⟨⟨⟨⟨⟨h0, h1⟩, h2⟩, h3⟩, h4⟩, h5⟩ := hok
  have hnd := distinct_spec h2
  have hcov : ∀ j, j < ops.size → j ∈ L.map Prod.fst := fun j hj => by
    have := List.all_eq_true.1 h1 j (by simpa using hj)
    simpa using this
  have hall : ∀ p ∈ L, ∃ o, ops[p.1]? = some o ∧ AllocOk P o p.2 := fun p hp => by
    have := List.all_eq_true.1 h4 p hp
    split at this
    · rename_i o ho
      refine ⟨o, ho, fun hc => ⟨hal o (by simpa using Array.mem_of_getElem? ho) hc, ?_⟩⟩
      simp only [hc, bne_self_eq_false, Bool.false_or, Bool.and_eq_true, Bool.not_eq_true', Option.isNone_iff_eq_none] at this
      exact this
    · cases this
  have hlen : L.length = ops.size := by simpa using h0
  have hstep := Step.draw hr (w.drawn + 1)
  refine wp_region_any hm ?_
  refine drun_any (W := W) ops.size L _ hlen (by simp) (fun j hj => ⟨fun _ => hcov j hj, fun _ => by simp [hj]⟩) hall hnd (okPairs_spec h5) ?_ ?_ hrun he hstep.rel hd (fun env2 σ2 Γ2 a2 w2 b1 b2 b3 b4 b5 => hQ env2 σ2 Γ2 a2 w2 (hstep.trans b1) b2 b3 b4 b5)
  · intro j o _ hl
    simp only [Array.getD_eq_getD_getElem?, Array.getElem?_replicate] at hl
    split at hl <;> simp at hl
  · intro pre p post hL o ho e hee hb
    rcases okDeps_spec h3 pre p post hL o ho e hee hb with h | h
    · cases h
    · exact .inr h

end Go.Am
