/-
  Plain Lean: the program's renumbering of a clause.
-/
import Derived.Test.YtbmlendfheakeaaGreatPlU
namespace Go.Am
open Go.Proofs
set_option linter.unusedVariables false

theorem TT.two' {α : Type} {P P' : α → Prop} {m : Nat → Nat → Option α} (h : TT m P) (h' : ∀ a, P a → P' a) : TT m P' := h.mono h'

/-! ### Own copies -/

theorem ownL_i : ∀ ks : List STerm, ks.length ≤ 1000 → (∀ x ∈ ks, TT (fun f _ => M_i_own f x) (· = x)) → TT (fun f _ => M_i_ownList f ks) (· = ks) := by
  intro ks hl h
  refine TT.fsucc ?_
  show TT (fun f _ => B_i_ownList f (M_i_own f) (M_i_ownList f) ks) _
  unfold B_i_ownList jn
  refine TT.loop (L := fun f n => L_i_ownList_1 (M_i_own f) ks _ n [] 0) (TT.mapLoop (L := fun f n i out => L_i_ownList_1 (M_i_own f) ks _ n out i) (xs := ks) (g := fun f x => M_i_own f x) (fun _ _ _ _ => rfl) (by omega) (fun a b => b = a) h fun ys hys => ?_)
  have : ys = ks := by
    have := All2.map (g := id) hys
    simpa using this
  rw [this]
  exact TT.pure rfl
theorem own_i : ∀ t : STerm, smT t = true → TT (fun f _ => M_i_own f t) (· = t) := by
  refine STerm.ind fun t ih ht => TT.fsucc ?_
  obtain ⟨_, h2, h3⟩ := (smT_iff t).1 ht
  show TT (fun f _ => B_i_own f (M_i_own f) (M_i_ownList f) t) _
  unfold B_i_own
  refine TT.bind (ownL_i _ h2 fun x hx => ih x hx (h3 x hx)) fun z hz => TT.pure ?_
  subst hz
  cases t; rfl
theorem ownC_i (c : SClause) (h : smC 1000 c = true) : TT (fun f _ => M_i_ownClause f c) (· = c) := by
  obtain ⟨h1, h2, h3⟩ := (smC_iff c).1 h
  unfold M_i_ownClause
  refine TT.bind (own_i _ h1) fun z hz => TT.bind (ownL_i _ h2 fun x hx => own_i x (h3 x hx)) fun y hy => TT.pure ?_
  subst hz; subst hy; rfl

/-! ### Places in a row -/

def idx (v : Int) : List Int → Int
  | [] => -1
  | x :: r => if v = x then 0 else if idx v r < 0 then -1 else idx v r + 1
theorem idx_at {v : Int} : ∀ {us : List Int} {i : Nat}, us[i]? = some v → (∀ j, j < i → us[j]? ≠ some v) → idx v us = (i : Int)
  | [], i, h, _ => by simp at h
  | x :: r, 0, h, _ => by
    simp at h
    simp [idx, h]
  | x :: r, i + 1, h, hj => by
    have h0 : ¬ v = x := fun e => hj 0 (by omega) (by simp [e])
    have := idx_at (us := r) (i := i) (by simpa using h) fun j hji => by simpa using hj (j + 1) (by omega)
    simp only [idx, if_neg h0, this]
    rw [if_neg (by omega)]; omega
theorem idx_no {v : Int} : ∀ {us : List Int}, v ∉ us → idx v us = -1
  | [], _ => rfl
  | x :: r, h => by
    simp only [List.mem_cons, not_or] at h
    simp only [idx, if_neg h.1, idx_no h.2]
    rfl
theorem idx_mem {v : Int} : ∀ {us : List Int}, v ∈ us → 0 ≤ idx v us ∧ us[(idx v us).toNat]? = some v
  | [], h => by cases h
  | x :: r, h => by
    simp only [idx]
    by_cases e : v = x
    · simp [e]
    · have hm : v ∈ r := by rcases List.mem_cons.1 h with h | h; exact absurd h e; exact h
      obtain ⟨h1, h2⟩ := idx_mem hm
      rw [if_neg e, if_neg (by omega)]
      refine ⟨by omega, ?_⟩
      have : (idx v r + 1).toNat = (idx v r).toNat + 1 := by omega
      rw [this]; simpa using h2
theorem idx_inj {us : List Int} {v w : Int} (hv : v ∈ us) (hw : w ∈ us) (h : idx v us = idx w us) : v = w := by
  have h1 := (idx_mem hv).2
  rw [h, (idx_mem hw).2] at h1
  cases h1; rfl
theorem idx_lt {us : List Int} {v : Int} (hv : v ∈ us) : (idx v us).toNat < us.length := (List.getElem?_eq_some_iff.1 (idx_mem hv).2).1
theorem idx_pos {us : List Int} {v : Int} : decide (0 ≤ idx v us) = true ↔ v ∈ us := by
  constructor
  · intro h
    by_cases hm : v ∈ us
    · exact hm
    · rw [idx_no hm] at h; simp at h
  · intro h; simpa using (idx_mem h).1

theorem index_i (us : List Int) (hu : us.length ≤ 1000) (v : Int) : TT (fun f _ => M_Index_int f us v) (· = idx v us) := by
  unfold M_Index_int jn
  refine TT.loop (L := fun f n => L_Index_int_1 us v _ n 0) (TT.for (L := fun f n i => L_Index_int_1 us v _ n i) us.length (by omega) (fun i => ∀ j, j < i → us[j]? ≠ some v) (fun i hi hI k => ?_) (fun hI => ?_) (fun j hj => by omega))
  · simp only [L_Index_int_1]
    obtain ⟨x, hx, hx', hm⟩ := listAt hi
    refine TT.ct (by simp; omega) (TT.guard (by simp) (TT.opt hx (TT.cond (fun h => TT.pure ?_) fun h => ?_)))
    · have e : v = x := by simpa using h
      subst e
      exact (idx_at hx' hI).symm
    · have e : ¬ v = x := by simpa using h
      rw [wrapS hi (by omega)]
      refine k fun j hj => ?_
      by_cases hji : j = i
      · subst hji; rw [hx']; intro he; cases he; exact e rfl
      · exact hI j (by omega)
  · simp only [L_Index_int_1]
    refine TT.cf (by simp) (TT.pure ?_)
    refine (idx_no fun hm => ?_).symm
    obtain ⟨j, hj⟩ := List.getElem?_of_mem hm
    exact hI j (List.getElem?_eq_some_iff.1 hj).1 hj

/-! ### The variables of a term -/

mutual
def vok (V : Int → Prop) : STerm → Prop
  | ⟨k, n, _, ks⟩ => (k = 1 → V n) ∧ voks V ks
def voks (V : Int → Prop) : List STerm → Prop
  | [] => True
  | t :: ts => vok V t ∧ voks V ts
end
theorem voks_iff {V : Int → Prop} : ∀ l : List STerm, voks V l ↔ ∀ t ∈ l, vok V t
  | [] => by simp [voks]
  | t :: ts => by simp [voks, voks_iff ts]
theorem vok_iff {V : Int → Prop} (t : STerm) : vok V t ↔ (t.kind = 1 → V t.n) ∧ ∀ x ∈ t.kids, vok V x := by
  cases t; simp only [vok, voks_iff]
theorem vok_mono {V V' : Int → Prop} (h : ∀ x, V x → V' x) : ∀ t, vok V t → vok V' t := by
  refine STerm.ind fun t ih ht => ?_
  obtain ⟨h1, h2⟩ := (vok_iff t).1 ht
  exact (vok_iff t).2 ⟨fun e => h _ (h1 e), fun x hx => ih x hx (h2 x hx)⟩

mutual
def mapV (g : Int → Int) : STerm → STerm
  | ⟨k, n, s, ks⟩ => if k = 1 then ⟨1, g n, noName, []⟩ else ⟨k, n, s, mapVs g ks⟩
def mapVs (g : Int → Int) : List STerm → List STerm
  | [] => []
  | t :: ts => mapV g t :: mapVs g ts
end
theorem mapVs_eq {g : Int → Int} : ∀ l : List STerm, mapVs g l = l.map (mapV g)
  | [] => rfl
  | t :: ts => by simp [mapVs, mapVs_eq ts]
theorem mapV_eq {g : Int → Int} (t : STerm) : mapV g t = if t.kind = 1 then ⟨1, g t.n, noName, []⟩ else ⟨t.kind, t.n, t.name, t.kids.map (mapV g)⟩ := by
  cases t; simp only [mapV, mapVs_eq]

/-- A row of variables. -/
def VL (us : List Int) : Prop := us.Nodup ∧ ∀ x ∈ us, 0 ≤ x ∧ x ≤ 25
theorem VL.len {us : List Int} (h : VL us) : us.length ≤ 26 := by
  have : us ⊆ (List.range 26).map fun (x : Nat) => (x : Int) := fun x hx => by
    obtain ⟨h1, h2⟩ := h.2 x hx
    exact List.mem_map.2 ⟨x.toNat, List.mem_range.2 (by omega), by omega⟩
  have := h.1.length_le_of_subset this
  simpa using this

theorem addVars_i : ∀ t : STerm, nodes t ≤ 1000 → (∃ d, shape t d = true) → ∀ {us : List Int}, VL us →
    TT (fun f _ => M_i_addVars f t us) (fun r => VL r ∧ us ⊆ r ∧ vok (· ∈ r) t) := by
  refine STerm.ind fun t ih hn hd us hu => TT.fsucc ?_
  obtain ⟨d, hd⟩ := hd
  have hkl := len_nodes t.kids
  have hne := nodes_eq t
  have hno := shape_node hd
  show TT (fun f _ => B_i_addVars f (M_i_addVars f) t us) _
  unfold B_i_addVars jn
  have rest : ∀ us1 : List Int, VL us1 → us ⊆ us1 → (t.kind = 1 → t.n ∈ us1) → TT (fun f _ => L_i_addVars_1 (M_i_addVars f) t (fun v__3 => some v__3) f us1 0) (fun r => VL r ∧ us ⊆ r ∧ vok (· ∈ r) t) := by
    intro us1 hu1 hs1 hk1
    refine TT.loop (L := fun f n => L_i_addVars_1 (M_i_addVars f) t _ n us1 0) (TT.forS (L := fun f n i us => L_i_addVars_1 (M_i_addVars f) t _ n us i) t.kids.length (by omega)
      (fun i s => VL s ∧ us1 ⊆ s ∧ ∀ x ∈ t.kids.take i, vok (· ∈ s) x) (fun i s hi hI k => ?_) (fun s hI => ?_) us1 ⟨hu1, fun x hx => hx, fun x hx => by simp at hx⟩)
    · obtain ⟨i1, i2, i3⟩ := hI
      simp only [L_i_addVars_1]
      obtain ⟨x, hx, hx', hm⟩ := listAt hi
      have hnx : nodesL (t.kids.take i) + nodes x ≤ nodesL t.kids := by
        have h1 := nodesL_le t.kids (i + 1)
        rw [nodesL_take hx'] at h1; exact h1
      refine TT.ct (by simp; omega) (TT.guard (by simp) (TT.opt hx (TT.bind (ih x hm (by omega) ⟨_, shape_kids hd x hm⟩ i1) fun z ⟨z1, z2, z3⟩ => ?_)))
      rw [wrapS hi (by omega)]
      refine k z ⟨z1, fun y hy => z2 (i2 hy), fun y hy => ?_⟩
      rw [take_snoc hx'] at hy
      rcases List.mem_append.1 hy with hy | hy
      · exact vok_mono (fun _ h => z2 h) y (i3 y hy)
      · rw [List.mem_singleton.1 hy]; exact z3
    · obtain ⟨i1, i2, i3⟩ := hI
      rw [List.take_length] at i3
      simp only [L_i_addVars_1]
      exact TT.cf (by simp) (TT.pure ⟨i1, fun y hy => i2 (hs1 hy), (vok_iff t).2 ⟨fun e => i2 (hk1 e), i3⟩⟩)
  have hlen := hu.len
  refine TT.cond (fun h => ?_) fun h => TT.cf rfl (rest us hu (fun _ h => h) fun e => by rw [e] at h; cases h)
  have e : t.kind = 1 := by simpa using h
  obtain ⟨v1, v2, _, _⟩ := node_var hno e
  unfold M_Contains_int
  refine TT.bind (TT.bind (index_i us (by omega) t.n) fun z hz => TT.pure (P := (· = decide (0 ≤ idx t.n us))) (by rw [hz])) fun z hz => ?_
  subst hz
  refine TT.cond (fun h2 => ?_) fun h2 => ?_
  · have hni : t.n ∉ us := fun hm => by rw [idx_pos.2 hm] at h2; cases h2
    refine TT.guard (by simp; omega) (rest _ ⟨?_, ?_⟩ (fun x hx => by simp [hx]) fun _ => by simp)
    · exact List.nodup_append.2 ⟨hu.1, by simp, fun a ha b hb => by rw [List.mem_singleton.1 hb]; intro h; exact hni (h ▸ ha)⟩
    · intro x hx
      rcases List.mem_append.1 hx with hx | hx
      · exact hu.2 x hx
      · rw [List.mem_singleton.1 hx]; exact ⟨v1, v2⟩
  · refine rest us hu (fun _ h => h) fun _ => idx_pos.1 (by simpa using h2)

theorem varsOf_i (ts : List STerm) (hl : ts.length ≤ 1000) (ht : ∀ t ∈ ts, nodes t ≤ 1000 ∧ ∃ d, shape t d = true) :
    TT (fun f _ => M_i_varsOf f ts) (fun r => VL r ∧ ∀ t ∈ ts, vok (· ∈ r) t) := by
  unfold M_i_varsOf jn
  refine TT.loop (L := fun f n => L_i_varsOf_1 f ts _ n [] 0) (TT.forS (L := fun f n i us => L_i_varsOf_1 f ts _ n us i) ts.length (by omega)
    (fun i s => VL s ∧ ∀ x ∈ ts.take i, vok (· ∈ s) x) (fun i s hi hI k => ?_) (fun s hI => ?_) [] ⟨⟨List.nodup_nil, fun x hx => by cases hx⟩, fun x hx => by simp at hx⟩)
  · obtain ⟨i1, i3⟩ := hI
    simp only [L_i_varsOf_1]
    obtain ⟨x, hx, hx', hm⟩ := listAt hi
    refine TT.ct (by simp; omega) (TT.guard (by simp) (TT.opt hx (TT.bind (addVars_i x (ht x hm).1 (ht x hm).2 i1) fun z ⟨z1, z2, z3⟩ => ?_)))
    rw [wrapS hi (by omega)]
    refine k z ⟨z1, fun y hy => ?_⟩
    rw [take_snoc hx'] at hy
    rcases List.mem_append.1 hy with hy | hy
    · exact vok_mono (fun _ h => z2 h) y (i3 y hy)
    · rw [List.mem_singleton.1 hy]; exact z3
  · obtain ⟨i1, i3⟩ := hI
    rw [List.take_length] at i3
    simp only [L_i_varsOf_1]
    exact TT.cf (by simp) (TT.pure ⟨i1, i3⟩)

theorem mapV_i (us : List Int) (hu : us.length ≤ 1000) : ∀ t : STerm, smT t = true → TT (fun f _ => M_i_mapVars__i_renumbered_1 f t us) (· = mapV (idx · us) t) := by
  refine STerm.ind fun t ih ht => TT.fsucc ?_
  obtain ⟨_, h2, h3⟩ := (smT_iff t).1 ht
  show TT (fun f _ => B_i_mapVars__i_renumbered_1 f (M_i_mapVars__i_renumbered_1 f) t us) _
  unfold B_i_mapVars__i_renumbered_1 jn
  refine TT.cond (fun h => ?_) fun h => ?_
  · have e : t.kind = 1 := by simpa using h
    unfold M_i_renumbered_1
    refine TT.bind (TT.bind (index_i us hu t.n) fun z hz => TT.pure (P := (· = (⟨1, idx t.n us, noName, []⟩ : STerm))) (by rw [hz])) fun z hz => TT.pure ?_
    rw [hz, mapV_eq, if_pos e]
  · have e : ¬ t.kind = 1 := by simpa using h
    refine TT.loop (L := fun f n => L_i_mapVars__i_renumbered_1_1 (M_i_mapVars__i_renumbered_1 f) t us _ n 0 []) (TT.mapLoop (L := fun f n i out => L_i_mapVars__i_renumbered_1_1 (M_i_mapVars__i_renumbered_1 f) t us _ n i out) (xs := t.kids) (g := fun f x => M_i_mapVars__i_renumbered_1 f x us) (fun _ _ _ _ => rfl) (by omega) (fun a b => b = mapV (idx · us) a) (fun x hx => ih x hx (h3 x hx)) fun ys hys => TT.pure ?_)
    rw [All2.map hys, mapV_eq, if_neg e]

theorem renumbered_i (ts : List STerm) (hl : ts.length ≤ 1000) (ht : ∀ t ∈ ts, smT t = true ∧ nodes t ≤ 1000 ∧ ∃ d, shape t d = true) :
    TT (fun f _ => M_i_renumbered f ts) (fun r => ∃ us, VL us ∧ (∀ t ∈ ts, vok (· ∈ us) t) ∧ r = ts.map (mapV (idx · us))) := by
  unfold M_i_renumbered jn
  refine TT.bind (varsOf_i ts hl fun t h => (ht t h).2) fun us ⟨h1, h2⟩ => ?_
  have := h1.len
  refine TT.loop (L := fun f n => L_i_renumbered_1 f ts us _ n [] 0) (TT.mapLoop (L := fun f n i out => L_i_renumbered_1 f ts us _ n out i) (xs := ts) (g := fun f x => M_i_mapVars__i_renumbered_1 f x us) (fun _ _ _ _ => rfl) (by omega) (fun a b => b = mapV (idx · us) a) (fun x hx => mapV_i us (by omega) x (ht x hx).1) fun ys hys => TT.pure ⟨us, h1, h2, All2.map hys⟩)

theorem clip_T (f : Nat) (l : List STerm) : M_Clip_Term f l = some l := by
  unfold M_Clip_Term
  simp

theorem mapV_sm {g : Int → Int} : ∀ t : STerm, smT t = true → smT (mapV g t) = true := by
  refine STerm.ind fun t ih ht => ?_
  obtain ⟨h1, h2, h3⟩ := (smT_iff t).1 ht
  rw [mapV_eq]
  split
  · rfl
  · refine (smT_iff _).2 ⟨h1, by simpa using h2, fun x hx => ?_⟩
    obtain ⟨y, hy, rfl⟩ := List.mem_map.1 hx
    exact ih y hy (h3 y hy)

def mapC (g : Int → Int) (c : SClause) : SClause := ⟨mapV g c.head, c.body.map (mapV g)⟩
theorem mapC_sm {g : Int → Int} {c : SClause} (h : smC 1000 c = true) : smC 1000 (mapC g c) = true := by
  obtain ⟨h1, h2, h3⟩ := (smC_iff c).1 h
  refine (smC_iff _).2 ⟨mapV_sm _ h1, by simpa [mapC] using h2, fun x hx => ?_⟩
  obtain ⟨y, hy, rfl⟩ := List.mem_map.1 hx
  exact mapV_sm y (h3 y hy)

theorem goal_parts {g : STerm} (h : goalOk g = true) : nodes g ≤ 120 ∧ shape g 30 = true := by
  simp only [goalOk, termOk, Bool.and_eq_true, decide_eq_true_eq] at h
  exact ⟨h.1.2, h.1.1⟩

/-- What the program makes of a clause. -/
theorem renumber_i (c : SClause) (hs : smC 1000 c = true) : TT (fun f _ => M_i_RenumberClause f c) (fun r => if clauseOk c = true then ∃ us, VL us ∧ vok (· ∈ us) c.head ∧ (∀ t ∈ c.body, vok (· ∈ us) t) ∧ r = (mapC (idx · us) c, true) else r = (⟨⟨0, 0, noName, []⟩, []⟩, false)) := by
  unfold M_i_RenumberClause
  refine TT.bind (clause_i c hs) fun z hz => ?_
  subst hz
  refine TT.cond (fun h => TT.pure ?_) fun h => ?_
  · rw [if_neg (by simpa using h)]
  · have hc : clauseOk c = true := by simpa using h
    obtain ⟨⟨d, hd⟩, h2, h3, h4, h5, h6, h7⟩ := clause_parts hc
    obtain ⟨s1, s2, s3⟩ := (smC_iff c).1 hs
    simp only [hc, if_true]
    unfold M_i_numbered
    refine TT.bind (P := fun r => ∃ us, VL us ∧ vok (· ∈ us) c.head ∧ (∀ t ∈ c.body, vok (· ∈ us) t) ∧ r = mapC (idx · us) c) ?_ fun z ⟨us, z1, z2, z3, z4⟩ => ?_
    · refine TT.guard (by simp; omega) (TT.bind (renumbered_i ([c.head] ++ c.body) (by simp; omega) fun t ht => ?_) fun z ⟨us, z1, z2, z3⟩ => ?_)
      · rcases List.mem_append.1 ht with ht | ht
        · rw [List.mem_singleton.1 ht]; exact ⟨s1, by omega, d, hd⟩
        · have := goal_parts (h7 t ht)
          exact ⟨s3 t ht, by omega, _, this.2⟩
      · subst z3
        refine TT.opt (b := mapV (idx · us) c.head) rfl (TT.guard (by simp) (TT.bind (TT.any (fun f _ => clip_T f _) rfl) fun y hy => TT.pure ⟨us, z1, z2 _ (by simp), fun t ht => z2 t (by simp [ht]), ?_⟩))
        subst hy
        simp only [mapC]
        congr 1
        simp
        exact List.take_of_length_le (by simp)
    · subst z4
      refine TT.bind (ownC_i _ (mapC_sm hs)) fun y hy => TT.pure ⟨us, z1, z2, z3, ?_⟩
      rw [hy]

end Go.Am
