/-
  Slices that are written: arrays in the store, element by element; and, when they are written no more, lists again.
-/
import Derived.Test.YtbmlendfheakeaaGreatAmM
set_option linter.unusedVariables false
set_option linter.unusedSimpArgs false
set_option linter.unnecessarySimpa false
namespace Go.Am

variable {P : Program} {ops : Array Oper} {rest : List Oper} {o : Oper} {K : Env → St → Prop} {env : Env} {σ : St} {V : AV → St → Prop} {n : Nat} {Q : AQ}

/-! ### What is seen otherwise, with nothing done -/

/-- Slots and store may be seen otherwise, as long as this is true of the same memory. -/
theorem SW.ghost {c : Code} {env' : Env} {σ' : St} (hg : ∀ Γ a w, EnvRel Γ env a → Rel σ Γ w → ∃ Γ', Step Γ σ w Γ' σ' w ∧ EnvRel Γ' env' a) (h : SW P n c Q env' σ') : SW P n c Q env σ := fun hk Γ a w he hr hz => by
  obtain ⟨Γ', hs, he'⟩ := hg Γ a w he hr
  refine Code.wp_mono ?_ (h hk Γ' a w he' hs.rel hz)
  rintro e a' w' ⟨env2, σ2, Γ2, h1, h2, h3, h4, h5⟩
  exact ⟨env2, σ2, Γ2, hs.trans h1, h2, h3, h4, h5⟩

/-- What becomes of a value when a thing of the store is written no more. -/
def FzLe (id : Nat) (cs : List AV) (u v : AV) : Prop := ∀ (Γ Γ' : Gh) (b : Nat) (xs : List Value), Ext Γ Γ' → (∃ c, Γ.loc id = some (b, 0, c)) → VRL Γ' cs xs → ImmAt Γ' (some (b, 0)) xs → ∀ x, VR Γ u x → VR Γ' v x

theorem FzLe.refl {id : Nat} {cs : List AV} (u : AV) : FzLe id cs u u := fun _ _ _ _ he _ _ _ x hx => hx.ext he
inductive FzLs (id : Nat) (cs : List AV) : List AV → List AV → Prop
  | nil : FzLs id cs [] []
  | cons {u v : AV} {us vs : List AV} : FzLe id cs u v → FzLs id cs us vs → FzLs id cs (u :: us) (v :: vs)

theorem FzLs.spec {id : Nat} {cs : List AV} : ∀ {us vs : List AV}, FzLs id cs us vs → ∀ (Γ Γ' : Gh) (b : Nat) (xs : List Value), Ext Γ Γ' → (∃ c, Γ.loc id = some (b, 0, c)) → VRL Γ' cs xs → ImmAt Γ' (some (b, 0)) xs → ∀ ys, VRL Γ us ys → VRL Γ' vs ys
  | _, _, .nil, _, _, _, _, _, _, _, _, ys, hy => by rw [hy.nil_inv]; exact VRL.nil
  | _, _, .cons h k, Γ, Γ', b, xs, h1, h2, h3, h4, ys, hy => by
    obtain ⟨y, ys, rfl, hy1, hy2⟩ := hy.cons_inv
    exact VRL.cons (h Γ Γ' b xs h1 h2 h3 h4 y hy1) (k.spec Γ Γ' b xs h1 h2 h3 h4 ys hy2)

theorem VRE.of_flat {Γ : Gh} {sz : Nat} : ∀ {es : List AV} {xs : List Value}, (∀ e ∈ es, e.cells.length = sz ∧ ((∃ cs, e = .agg cs) ∨ e.sc = true ∧ sz = 1)) → VRL Γ (es.map AV.cells).flatten xs → (∀ x ∈ xs, x.oneCell' = true) → VRE Γ sz es xs
  | [], xs, _, h, _ => by
    simp only [List.map_nil, List.flatten_nil] at h
    rw [h.nil_inv]; simp only [VRE]
  | e :: es, xs, hs, h, hone => by
    simp only [List.map_cons, List.flatten_cons] at h
    obtain ⟨h1, h2⟩ := hs e (by simp)
    have hlen := h.length
    simp only [List.length_append] at hlen
    have ht := h.take e.cells.length
    have hd := h.drop e.cells.length
    rw [List.take_left'] at ht
    rw [List.drop_left'] at hd
    all_goals try rfl
    have hx : xs = xs.take e.cells.length ++ xs.drop e.cells.length := (List.take_append_drop _ _).symm
    have hrest := VRE.of_flat (sz := sz) (fun e' he' => hs e' (by simp [he'])) hd (fun x hx => hone x (List.mem_of_mem_drop hx))
    simp only [VRE]
    rcases h2 with ⟨cs, rfl⟩ | ⟨hsc, rfl⟩
    · refine ⟨.agg (xs.take cs.length).toArray, _, ?_, ?_, ?_, hrest⟩
      · simpa [Value.cells, AV.cells] using hx
      · have := ht.length
        simp only [AV.cells] at this h1 ⊢
        simp only [Value.cells, List.size_toArray]
        rw [this, h1]
      · simp only [VR]; exact ⟨_, rfl, by simpa [AV.cells] using ht⟩
    · have hc : e.cells = [e] := by cases e <;> first | rfl | (simp [AV.sc] at hsc)
      rw [hc] at ht hx hrest
      obtain ⟨y, ys, hy, hy1, hy2⟩ := ht.cons_inv
      have := hy2.nil_inv
      subst this
      have hyo : y.oneCell' = true := hone y (List.mem_of_mem_take (i := [e].length) (by rw [hy]; simp))
      refine ⟨y, xs.drop 1, ?_, ?_, hy1, by simpa using hrest⟩
      · have e1 : y.cells = #[y] := one_cells hyo
        rw [e1]
        simp only [List.length_cons, List.length_nil] at hx hy
        rw [hy] at hx
        simpa using hx
      · rw [one_cells hyo]; rfl

/-! ### Lists as cells -/

/-- How a type's values lie in cells. -/
def El {α : Type} (f : α → AV) (sz : Nat) (ag : Bool) : Prop := ∀ x, (f x).cells.length = sz ∧ (f x).cells.all AV.sc = true ∧ (if ag then ∃ cs, f x = .agg cs else (f x).sc = true ∧ sz = 1)

theorem El.int (k : IntKind) : El (AV.int k) 1 false := fun _ => ⟨rfl, rfl, rfl, rfl⟩
def flat {α : Type} (f : α → AV) (xs : List α) : List AV := ((xs.map f).map AV.cells).flatten

section
variable {α : Type} {f : α → AV} {sz : Nat} {ag : Bool} {xs : List α}

theorem El.one (h : El f sz ag) (x : α) (ha : ag = false) : (f x).cells = [f x] := by
  obtain ⟨_, _, h3⟩ := h x
  rw [ha] at h3
  simp only [Bool.false_eq_true, if_false] at h3
  cases hx : f x <;> rw [hx] at h3 <;> first | rfl | (simp [AV.sc] at h3)

theorem flat_cons (x : α) (xs : List α) : flat f (x :: xs) = (f x).cells ++ flat f xs := by simp [flat]
theorem flat_nil : flat f [] = [] := rfl
theorem flat_append (xs ys : List α) : flat f (xs ++ ys) = flat f xs ++ flat f ys := by simp [flat]

theorem flat_length (h : El f sz ag) : ∀ xs : List α, (flat f xs).length = xs.length * sz
  | [] => by simp [flat_nil]
  | x :: xs => by rw [flat_cons, List.length_append, (h x).1, flat_length h xs, List.length_cons, Nat.succ_mul, Nat.add_comm]

theorem flat_sc (h : El f sz ag) : ∀ xs : List α, (flat f xs).all AV.sc = true
  | [] => rfl
  | x :: xs => by rw [flat_cons, List.all_append, (h x).2.1, flat_sc h xs]; rfl

theorem flat_split (h : El f sz ag) {i : Nat} {x : α} (hi : xs[i]? = some x) : flat f xs = flat f (xs.take i) ++ ((f x).cells ++ flat f (xs.drop (i + 1))) := by
  have hlt : i < xs.length := (List.getElem?_eq_some_iff.1 hi).1
  have hx : xs[i] = x := (List.getElem?_eq_some_iff.1 hi).2
  conv => lhs; rw [← List.take_append_drop i xs]
  rw [flat_append, List.drop_eq_getElem_cons hlt, hx, flat_cons]

theorem flat_len_take (h : El f sz ag) {i : Nat} {x : α} (hi : xs[i]? = some x) : (flat f (xs.take i)).length = i * sz := by
  have hlt : i < xs.length := (List.getElem?_eq_some_iff.1 hi).1
  rw [flat_length h, List.length_take, Nat.min_eq_left (Nat.le_of_lt hlt)]

theorem flat_get (h : El f sz ag) {i j : Nat} {x : α} (hi : xs[i]? = some x) (hj : j < sz) : (flat f xs)[i * sz + j]? = (f x).cells[j]? := by
  rw [flat_split h hi, List.getElem?_append_right (by rw [flat_len_take h hi]; omega), flat_len_take h hi, Nat.add_sub_cancel_left,
    List.getElem?_append_left (by rw [(h x).1]; exact hj)]

theorem flat_cut (h : El f sz ag) {i j m : Nat} {x : α} (hi : xs[i]? = some x) (hj : j + m ≤ sz) : Go.Am.cut (flat f xs) (i * sz + j) m = Go.Am.cut (f x).cells j m := by
  have hl : i * sz + sz ≤ (flat f xs).length := by
    rw [flat_split h hi, List.length_append, List.length_append, flat_len_take h hi, (h x).1]; omega
  unfold Go.Am.cut
  rw [if_pos (by omega), if_pos (by rw [(h x).1]; exact hj)]
  congr 1
  rw [flat_split h hi, ← List.drop_drop, ← flat_len_take h hi, List.drop_left, List.drop_append, List.take_append]
  have e : m - ((f x).cells.drop j).length = 0 := by rw [List.length_drop, (h x).1]; omega
  rw [e, List.take_zero, List.append_nil]

/-- A whole element, read. -/
theorem lod_elem (h : El f sz ag) {te : TI} (h1 : te.sz = sz) (h2 : te.agg = ag) {i : Nat} {x : α} {v : AV} (hi : xs[i]? = some x) (hv : f x = v) : lod te (flat f xs) (i * sz) = some v := by
  subst hv
  unfold lod
  rw [h2, h1]
  cases ag with
  | true =>
    simp only [if_true]
    have := flat_cut h (j := 0) (m := sz) hi (by omega)
    rw [Nat.add_zero] at this
    rw [this]
    obtain ⟨k1, _, k3⟩ := h x
    simp only [if_true] at k3
    obtain ⟨cs, hc⟩ := k3
    rw [hc] at k1 ⊢
    simp only [AV.cells] at k1 ⊢
    unfold Go.Am.cut
    rw [if_pos (by omega)]
    simp [← k1]
  | false =>
    simp only [Bool.false_eq_true, if_false]
    have hs : sz = 1 := by have := (h x).2.2; simpa using this.2
    have := flat_get h (j := 0) hi (by omega)
    rw [Nat.add_zero] at this
    rw [this, h.one x rfl]; rfl

/-- Written into an element. -/
theorem splice_flat (h : El f sz ag) {i off : Nat} {x y : α} {vs : List AV} (hi : xs[i]? = some x) (hl : off + vs.length ≤ sz) (hy : splice (f x).cells off vs = (f y).cells) : splice (flat f xs) (i * sz + off) vs = flat f (xs.set i y) := by
  have hlt : i < xs.length := (List.getElem?_eq_some_iff.1 hi).1
  have hset : flat f (xs.set i y) = flat f (xs.take i) ++ ((f y).cells ++ flat f (xs.drop (i + 1))) := by
    rw [List.set_eq_take_append_cons_drop, if_pos hlt, flat_append, flat_cons]
  rw [hset, ← hy, flat_split h hi]
  have e1 := flat_len_take h hi
  have e2 := (h x).1
  unfold splice
  generalize hA : flat f (xs.take i) = A at e1
  generalize flat f (xs.drop (i + 1)) = B
  rw [List.take_append, e1, List.take_of_length_le (by omega), Nat.add_sub_cancel_left, Nat.add_assoc, ← e1, List.drop_append, List.drop_eq_nil_of_le (by omega), List.nil_append, Nat.add_sub_cancel_left, List.take_append, List.drop_append]
  rw [show off - (f x).cells.length = 0 by omega, show off + vs.length - (f x).cells.length = 0 by omega]
  simp [List.append_assoc]

theorem splice_elem (h : El f sz ag) {i : Nat} {x y : α} {v : AV} (hi : xs[i]? = some x) (hy : f y = v) : splice (flat f xs) (i * sz) v.cells = flat f (xs.set i y) := by
  subst hy
  have := splice_flat h (off := 0) (vs := (f y).cells) (x := x) (y := y) hi (by rw [(h y).1]; omega) (by
    unfold splice
    rw [List.take_zero, List.nil_append, Nat.zero_add, (h y).1, ← (h x).1, List.drop_length, List.append_nil])
  rwa [Nat.add_zero] at this

theorem El.fz (h : El f sz ag) : ∀ e ∈ xs.map f, e.cells.length = sz ∧ ((∃ cs, e = .agg cs) ∨ e.sc = true ∧ sz = 1) := fun e he => by
  obtain ⟨x, _, rfl⟩ := List.mem_map.1 he
  obtain ⟨h1, _, h3⟩ := h x
  refine ⟨h1, ?_⟩
  cases ag with
  | true => simp only [if_true] at h3; exact .inl h3
  | false => simp only [Bool.false_eq_true, if_false] at h3; exact .inr h3

/-- A slice of what is written no more. -/
theorem FzLe.ref (h : El f sz ag) {id len : Nat} (cap : Nat) (hl : xs.length = len) : FzLe id (flat f xs) (.ref id 0 len cap) (.imm sz (xs.map f) .no) := fun Γ Γ' b ys h1 ⟨c, h2⟩ h3 h4 x hx => by
  subst hl
  simp only [VR] at hx
  obtain ⟨b', c', h5, h6, rfl⟩ := hx
  rw [h2] at h5; cases h5
  have hv := VRE.of_flat h.fz h3 (h3.sc (flat_sc h xs))
  simp only [VR, List.length_map]
  exact ⟨some (b, 0), cap, ys, rfl, h6, by simp, hv, h4, trivial⟩
end

/-! ### From here on a thing of the store is written no more -/

def OFz (id : Nat) (cs : List AV) : AObj → AObj → Prop
  | .cells us, .cells vs => FzLs id cs us vs
  | o, o' => o = o'

theorem FzLs.len {id : Nat} {cs : List AV} : ∀ {us vs : List AV}, FzLs id cs us vs → us.length = vs.length
  | _, _, .nil => rfl
  | _, _, .cons _ k => by simp [k.len]
theorem FzLs.refl {id : Nat} {cs : List AV} : ∀ us : List AV, FzLs id cs us us
  | [] => .nil
  | u :: us => .cons (FzLe.refl u) (FzLs.refl us)
theorem OFz.refl {id : Nat} {cs : List AV} (o : AObj) : OFz id cs o o := by
  cases o with
  | cells us => exact FzLs.refl us
  | map es => rfl
  | tok n s => rfl

def EFz (id : Nat) (cs : List AV) (env env' : Env) : Prop := ∀ k v, env'.get k = some v → ∃ u, env.get k = some u ∧ FzLe id cs u v
def SFz (id : Nat) (cs : List AV) (σ σ' : St) : Prop := ∀ j o', σ' j = some o' → j ≠ id ∧ ∃ o, σ j = some o ∧ OFz id cs o o'

theorem EFz.refl {id : Nat} {cs : List AV} (env : Env) : EFz id cs env env := fun _ v h => ⟨v, h, FzLe.refl v⟩
theorem EFz.set {id k : Nat} {cs : List AV} {env' : Env} {u v : AV} (h : EFz id cs env env') (hk : env.get k = some u) (hu : FzLe id cs u v) : EFz id cs env (env'.set k v) := fun j w hj => by
  rw [Env.get_set] at hj
  split at hj
  · rename_i e; subst e; cases hj; exact ⟨u, hk, hu⟩
  · exact h j w hj
theorem SFz.none {id : Nat} {cs : List AV} : SFz id cs σ (σ.set id none) := fun j o' hj => by
  by_cases h : j = id
  · subst h; rw [St.set_same] at hj; cases hj
  · rw [St.set_ne _ _ h] at hj; exact ⟨h, o', hj, OFz.refl _⟩
theorem SFz.set {id j : Nat} {cs us vs : List AV} {σ' : St} (h : SFz id cs σ σ') (hn : j ≠ id) (hj : σ j = some (.cells us)) (hu : FzLs id cs us vs) : SFz id cs σ (σ'.set j (some (.cells vs))) := fun k o' hk => by
  by_cases e : k = j
  · subst e; rw [St.set_same] at hk; cases hk; exact ⟨hn, _, hj, hu⟩
  · rw [St.set_ne _ _ e] at hk; exact h k o' hk

theorem freeze_step {id : Nat} {cs : List AV} {σ' : St} {Γ : Gh} {w : World} (hr : Rel σ Γ w) (hσ : σ id = some (.cells cs)) (hs : SFz id cs σ σ') :
    ∃ Γ' b xs, Step Γ σ w Γ' σ' w ∧ Ext Γ Γ' ∧ (∃ c, Γ.loc id = some (b, 0, c)) ∧ VRL Γ' cs xs ∧ ImmAt Γ' (some (b, 0)) xs := by
  obtain ⟨l, hl, ho⟩ := hr.obj id _ hσ
  obtain ⟨hl0, hno, arr, T, fz, hh, hsoft, hplain, hle, hv⟩ := ho
  obtain ⟨b, off, C⟩ := l
  simp only at hl0 hno hh
  subst hl0
  let Γ' : Gh := ⟨fun q j => if q = b ∧ j < cs.length then arr[j]? else Γ.im q j, Γ.loc⟩
  have hext : Ext Γ Γ' := ⟨fun q j x hx => by
    show (if _ then _ else _) = _
    by_cases hq : q = b
    · subst hq; rw [hno j] at hx; cases hx
    · rw [if_neg (by rintro ⟨h, _⟩; exact hq h)]; exact hx, fun _ _ h => h⟩
  have himm : ImmAt Γ' (some (b, 0)) (arr.toList.take cs.length) := fun i x hi => by
    show (if _ then _ else _) = _
    have hlt := (List.getElem?_eq_some_iff.1 hi).1
    simp only [List.length_take] at hlt
    rw [List.getElem?_take, if_pos (by omega)] at hi
    rw [Nat.zero_add, if_pos ⟨rfl, by omega⟩]
    simpa using hi
  have hv' := VRL.ext hext _ _ hv
  have hlow := hr.low id _ hl
  have live : ∀ i, σ' i ≠ none → σ i ≠ none := fun i hi => by
    cases hx : σ' i with
    | none => exact absurd hx hi
    | some o => obtain ⟨_, p, hp, _⟩ := hs i o hx; rw [hp]; simp
  refine ⟨Γ', b, _, ⟨hext, ⟨?_, ?_, fun i j li lj hi hj => hr.inj i j li lj (live i hi) (live j hj), hr.low, hr.few⟩, fun _ _ _ => rfl, ?_, ?_, Nat.le_refl _, rfl, rfl, rfl⟩, hext, ⟨C, hl⟩, hv', himm⟩
  · intro q j x hx
    have hx' : (if q = b ∧ j < cs.length then arr[j]? else Γ.im q j) = some x := hx
    split at hx'
    · rename_i hc
      obtain ⟨rfl, _⟩ := hc
      rw [cell?_cells hh]
      exact ⟨hx', hplain j x hx'⟩
    · exact hr.im q j x hx'
  · intro j o' hj
    obtain ⟨hne, o, hj', hfz⟩ := hs j o' hj
    obtain ⟨l', hl', ho'⟩ := hr.obj j o hj'
    have hkeep : ∀ i, Γ.im l'.1 i = none → Γ'.im l'.1 i = none := fun i hi => by
      show (if _ then _ else _) = _
      rw [if_neg]
      · exact hi
      · rintro ⟨h1, _⟩
        exact hne (hr.inj j id l' _ (by rw [hj']; simp) (by rw [hσ]; simp) hl' hl h1)
    refine ⟨l', hl', ?_⟩
    cases o with
    | cells us =>
      cases o' with
      | cells vs =>
        have hlen := FzLs.len hfz
        obtain ⟨q1, q2, arr2, T2, fz2, q3, q4, q5, q6, q7⟩ := ho'
        refine ⟨q1, fun i => hkeep i (q2 i), arr2, T2, fz2, q3, q4, q5, by rw [← hlen]; exact q6, ?_⟩
        rw [← hlen]
        exact FzLs.spec hfz Γ Γ' b _ hext ⟨C, hl⟩ hv' himm _ q7
      | map es => cases hfz
      | tok n s => cases hfz
    | map es => cases o' <;> cases hfz; exact ho'.ext hext hkeep
    | tok n s => cases o' <;> cases hfz; exact ho'.ext hext hkeep
  · intro q j _ hn
    show (if _ then _ else _) = _
    rw [if_neg]
    rintro ⟨rfl, _⟩
    exact hn ⟨id, _, by rw [hσ]; simp, hl, rfl⟩
  · rintro q ⟨j, l', h1, h2, h3⟩
    exact .inl ⟨j, l', live j h1, h2, h3⟩

/-- Things of the store that speak of what is written no more. -/
inductive FzObs (id : Nat) (cs : List AV) (σ : St) : List (Nat × List AV) → Prop
  | nil : FzObs id cs σ []
  | cons {j : Nat} {us vs : List AV} {l : List (Nat × List AV)} : j ≠ id → σ j = some (.cells us) → FzLs id cs us vs → (∀ x ∈ l, x.1 ≠ j) → FzObs id cs σ l → FzObs id cs σ ((j, vs) :: l)

def Got (σ : St) : List (Nat × List AV) → Prop
  | [] => True
  | (j, vs) :: l => σ j = some (.cells vs) ∧ Got σ l

theorem FzObs.spec {id : Nat} {cs : List AV} : ∀ {l : List (Nat × List AV)}, FzObs id cs σ l → ∃ σ', SFz id cs σ σ' ∧ Got σ' l ∧ ∀ j, j ≠ id → (∀ x ∈ l, x.1 ≠ j) → σ' j = σ j
  | _, .nil => ⟨σ.set id none, SFz.none, trivial, fun j hj _ => St.set_ne _ _ hj⟩
  | _, .cons (j := j) (vs := vs) (l := l) h1 h2 h3 h4 h5 => by
    obtain ⟨σ', k1, k2, k3⟩ := h5.spec
    refine ⟨σ'.set j (some (.cells vs)), k1.set h1 h2 h3, ⟨St.set_same _ _ _, ?_⟩, fun i hi hn => ?_⟩
    · have : ∀ (m : List (Nat × List AV)), (∀ x ∈ m, x.1 ≠ j) → Got σ' m → Got (σ'.set j (some (.cells vs))) m := by
        intro m
        induction m with
        | nil => intro _ _; trivial
        | cons x m ih =>
          obtain ⟨i, ws⟩ := x
          intro hm hg
          exact ⟨by rw [St.set_ne _ _ (hm (i, ws) (by simp))]; exact hg.1, ih (fun y hy => hm y (by simp [hy])) hg.2⟩
      exact this l h4 k2
    · rw [St.set_ne _ _ (Ne.symm (hn (j, vs) (by simp))), k3 i hi fun x hx => hn x (by simp [hx])]

/-- Slots and store, seen otherwise. -/
def Ghost (env : Env) (σ : St) (env' : Env) (σ' : St) : Prop := ∀ Γ a w, EnvRel Γ env a → Rel σ Γ w → ∃ Γ', Step Γ σ w Γ' σ' w ∧ EnvRel Γ' env' a

/-- Code at the end of other code, what comes behind it out of sight. -/
theorem SW.normK {c : Code} (h : ∀ K : Env → St → Prop, (∀ e s, Q .normal e s → K e s) → SW P n c (thenQ K Q) env σ) : SW P n c Q env σ :=
  (h _ fun _ _ hh => hh).mono fun e env' σ' hq => by cases e <;> exact hq

theorem K.freezeL {K : Env → St → Prop} (hK : ∀ e s e' s', Ghost e s e' s' → K e' s' → K e s) {id : Nat} {cs : List AV} {env' : Env} {l : List (Nat × List AV)} (hσ : σ id = some (.cells cs)) (he : EFz id cs env env') (hl : FzObs id cs σ l) (h : ∀ σ', Got σ' l → Fr σ σ' (l.foldl (fun A x => A ++ [x.1]) [id]) → K env' σ') : K env σ := by
  obtain ⟨σ', h1, h2, h3⟩ := hl.spec
  refine hK env σ env' σ' (fun Γ a w hE hr => ?_) (h σ' h2 fun j hj hn => ?_)
  · obtain ⟨Γ', b, xs, h1, h2, h3, h4, h5⟩ := freeze_step hr hσ h1
    refine ⟨Γ', h1, fun j y hj => ?_⟩
    obtain ⟨u, hu, hle⟩ := he j y hj
    exact hle Γ Γ' b xs h2 h3 h4 h5 _ (hE j u hu)
  · have key : ∀ (l : List (Nat × List AV)) (A : List Nat), (∀ i ∈ A, i ∈ l.foldl (fun A x => A ++ [x.1]) A) ∧ ∀ x ∈ l, x.1 ∈ l.foldl (fun A x => A ++ [x.1]) A := by
      intro l
      induction l with
      | nil => intro A; exact ⟨fun i hi => hi, fun x hx => by cases hx⟩
      | cons y l ih =>
        intro A
        obtain ⟨q1, q2⟩ := ih (A ++ [y.1])
        refine ⟨fun i hi => q1 i (by simp [hi]), fun x hx => ?_⟩
        simp only [List.mem_cons] at hx
        rcases hx with rfl | hx
        · exact q1 _ (by simp)
        · exact q2 x hx
    refine h3 j (fun hh => hn ?_) (fun x hx hh => hn ?_)
    · subst hh; exact (key l [j]).1 j (by simp)
    · subst hh; exact (key l [id]).2 x hx

/-- ████ FROM HERE ON A THING OF THE STORE IS WRITTEN NO MORE. ████ -/
theorem SW.freezeL {c : Code} {id : Nat} {cs : List AV} {env' : Env} {l : List (Nat × List AV)} (hσ : σ id = some (.cells cs)) (he : EFz id cs env env') (hl : FzObs id cs σ l) (h : ∀ σ', Got σ' l → Fr σ σ' (l.foldl (fun A x => A ++ [x.1]) [id]) → SW P n c Q env' σ') : SW P n c Q env σ :=
  K.freezeL (fun _ _ _ _ hg hh => SW.ghost hg hh) hσ he hl h

theorem flat_bound {α : Type} {f : α → AV} {sz : Nat} {ag : Bool} {xs : List α} (h : El f sz ag) {i : Nat} {x : α} (hi : xs[i]? = some x) {off m : Nat} (hm : off + m ≤ sz) : i * sz + off + m ≤ (flat f xs).length := by
  rw [flat_split h hi, List.length_append, List.length_append, flat_len_take h hi, (h x).1]; omega
theorem flat_bound0 {α : Type} {f : α → AV} {sz : Nat} {ag : Bool} {xs : List α} (h : El f sz ag) {i : Nat} {x : α} (hi : xs[i]? = some x) {m : Nat} (hm : m ≤ sz) : i * sz + m ≤ (flat f xs).length := by
  have := flat_bound h hi (off := 0) (m := m) (by omega)
  omega

/-! ### Operations -/

section
variable {α : Type} {f : α → AV} {sz : Nat} {ag : Bool} {xs : List α}

theorem a_idxRef {t et : TypeId} {x i : Operand} {ti te : TI} {a len cap : Nat} {kd : IntKind} {k : Int} {e : α} (h1 : tiOf P t = some ti) (h2 : ti.sh = .slice et) (h3 : tiOf P et = some te) (hs : te.sz = sz) (hx : opd env x = some (.ref a 0 len cap)) (hi : opd env i = some (.int kd k))
    (h0 : 0 ≤ k) (hl : xs.length = len) (he : xs[k.toNat]? = some e) (c : V (.ptr a (k.toNat * sz)) σ) : act P env σ (.indexAddr t x i) V := by
  obtain ⟨_, _, _, _, s1⟩ := ti
  subst h2 hs hl
  have hlt := (List.getElem?_eq_some_iff.1 he).1
  have hc : 0 ≤ k ∧ k < (xs.length : Nat) := ⟨h0, by omega⟩
  simp only [act, rd, h1, hx, hi, elemSz, h3, Option.map_some, indexA, if_pos hc, Nat.zero_add]; exact c
theorem a_makeSlice {t et : TypeId} {l c : Operand} {ti te : TI} {z : AV} {zx : α} {k : Int} (h1 : tiOf P t = some ti) (h2 : ti.sh = .slice et) (h3 : tiOf P et = some te) (hz : te.zero = some z) (hzc : z.cells.length = te.sz) (hzx : LeL z.cells (f zx).cells) (hp : 0 < te.sz) (hb : te.bytes ≤ 1024)
    (hl : opd env l = some (.int .i64 k)) (hc : opd env c = some (.int .i64 k)) (h0 : 0 ≤ k) (hk : k ≤ 4294967296)
    (q : ∀ id σ1 cap, σ id = none → σ1 id = some (.cells (List.replicate k.toNat z.cells).flatten) → Fr σ σ1 [] → cap = k.toNat → V (.ref id 0 k.toNat cap) σ1) : act P env σ (.makeSlice t l c) V := by
  obtain ⟨_, _, _, _, s1⟩ := ti
  obtain ⟨_, _, _, _, s2⟩ := te
  subst h2 hz
  simp only [act, h1, hl, hc, h3]
  exact ⟨trivial, h0, hk, hb, hzc, hp, fun id hid => q id _ k.toNat hid (St.set_same _ _ _) ((Fr.refl σ []).set (.inl hid)) rfl⟩

theorem LeL.append {us vs us' vs' : List AV} (h : LeL us vs) (k : LeL us' vs') : LeL (us ++ us') (vs ++ vs') := fun Γ xs hx => by
  have hl : xs.take us.length ++ xs.drop us.length = xs := List.take_append_drop _ _
  have h1 : VRL Γ us (xs.take us.length) := by
    have := hx.take us.length
    rwa [List.take_left'] at this; rfl
  have h2 : VRL Γ us' (xs.drop us.length) := by
    have := hx.drop us.length
    rwa [List.drop_left'] at this; rfl
  rw [← hl]
  exact (h Γ _ h1).append (k Γ _ h2)
theorem LeL.replicate {us vs : List AV} (h : LeL us vs) : ∀ n, LeL (List.replicate n us).flatten (List.replicate n vs).flatten
  | 0 => LeL.refl _
  | n + 1 => by simp only [List.replicate_succ, List.flatten_cons]; exact h.append (LeL.replicate h n)
theorem flat_replicate (zx : α) : ∀ n, (List.replicate n (f zx).cells).flatten = flat f (List.replicate n zx)
  | 0 => rfl
  | n + 1 => by simp only [List.replicate_succ, List.flatten_cons, flat_cons, flat_replicate zx n]

/-- So many variables, one behind the other. -/
theorem R.makeSlice {t et : TypeId} {l c : Operand} {ti te : TI} {z : AV} {zx : α} {k : Int} {d : Option Tmp} {ty : TypeId} {pos : String} {af : Array Edge} (h1 : tiOf P t = some ti) (h2 : ti.sh = .slice et) (h3 : tiOf P et = some te) (hz : te.zero = some z) (hzc : z.cells.length = te.sz) (hzx : LeL z.cells (f zx).cells) (hp : 0 < te.sz) (hb : te.bytes ≤ 1024)
    (hl : opd env l = some (.int .i64 k)) (hc : opd env c = some (.int .i64 k)) (h0 : 0 ≤ k) (hk : k ≤ 4294967296)
    (q : ∀ id σ1 cap, σ id = none → σ1 id = some (.cells (flat f (List.replicate k.toNat zx))) → Fr σ σ1 [] → k.toNat ≤ cap → arun P ops rest K (env.put d (.ref id 0 k.toNat cap)) σ1) :
    arun P ops ({ dst := d, op := .makeSlice t l c, type := ty, pos := pos, after := af, guard := none } :: rest) K env σ := by
  refine R.opSt rfl (a_makeSlice h1 h2 h3 hz hzc hzx hp hb hl hc h0 hk fun id σ1 cap hid h hF hcap => ?_)
  refine ⟨σ1.set id (some (.cells (flat f (List.replicate k.toNat zx)))), fun j o ho => ?_, q id _ cap hid (St.set_same _ _ _) (hF.set (.inl hid)) (by omega)⟩
  by_cases hj : j = id
  · subst hj
    rw [St.set_same] at ho; cases ho
    refine ⟨_, h, ?_⟩
    rw [← flat_replicate]
    exact LeL.replicate hzx _
  · rw [St.set_ne _ _ hj] at ho
    exact ⟨o, ho, OLe.refl o⟩

/-- Appending, to a slice without room, gives what may be written. -/
theorem a_appendRef {s x : Operand} {t u e e' : TypeId} {tt tu te : TI} {z xv : AV} {s1 : Nat} {es ds : List α} (h1 : tiOf P t = some tt) (h2 : tt.sh = .slice e) (h3 : tiOf P u = some tu) (h4 : tu.sh = .slice e') (h5 : tiOf P e = some te)
    (hs : opd env s = some (.imm s1 (es.map f) .full)) (hx : opd env x = some xv) (hsrc : srcOf σ te xv = some (ds.map f)) (hz : te.zero = some z) (hzl : z.cells.length = te.sz) (h0 : 0 < te.sz) (hb : te.bytes ≤ 1024) (hlen : es.length + ds.length ≤ 4294967296)
    (hsz : s1 = te.sz ∨ es.map f = []) (hd : 0 < ds.length) (k : ∀ id σ' cap, σ id = none → σ' id = some (.cells (flat f (es ++ ds))) → Fr σ σ' [] → es.length + ds.length ≤ cap → V (.ref id 0 (es.length + ds.length) cap) σ') :
    act P env σ (.call { callee := .builtin .append, args := #[s, x], argTypes := #[t, u] }) V := by
  obtain ⟨_, _, _, _, s1'⟩ := tt
  obtain ⟨_, _, _, _, s2'⟩ := tu
  subst h2 h4
  simp only [act, h1, h3, hs, hx, h5, hsrc]
  refine ⟨h0, hb, ?_, by simpa using hlen, hsz, fun hn => ?_, fun _ => .inr ⟨trivial, fun id cap hid hc => ?_⟩⟩
  · simp only [hz]; exact hzl
  · simp only [List.map_eq_nil_iff] at hn
    subst hn; simp at hd
  · simp only [List.length_map] at hc ⊢
    refine k id _ cap hid ?_ ((Fr.refl σ []).set (.inl hid)) hc
    rw [St.set_same, flat, List.map_append, List.map_append]; simp only [List.map_append]

end

/-! ### Short names, for printed walks -/

abbrev I (n : Int) : AV := .int .i64 n
abbrev U (n : Int) : AV := .int .u8 n
abbrev LI (l : List Int) (tk : Tk) : AV := .imm 1 (List.map (AV.int .i64) l) tk
abbrev LU (l : List Int) (tk : Tk) : AV := .imm 1 (List.map (AV.int .u8) l) tk
abbrev LS (l : List ByteArray) (tk : Tk) : AV := .imm 1 (List.map AV.str l) tk
section
variable {d : Option Tmp} {ty : TypeId} {pos : String} {af : Array Edge} {v : AV}

theorem mv {x : Operand} (h : opd env x = some v) (k : arun P ops rest K (env.put d v) σ) : arun P ops ({ dst := d, op := .move x, type := ty, pos := pos, after := af, guard := none } :: rest) K env σ := R.op rfl (a_move h k)
theorem sn {x : Operand} (h : opd env x = some v) (k : arun P ops rest K (env.put d v) σ) : arun P ops ({ dst := d, op := .assign x, type := ty, pos := pos, after := af, guard := none } :: rest) K env σ := R.op rfl (a_assign h k)
theorem it {op : BinOp} {t q : TypeId} {x y : Operand} {kd : IntKind} {a b : Int} (hx : opd env x = some (.int kd a)) (hy : opd env y = some (.int kd b)) (h : intBin op kd a b = some v) (k : arun P ops rest K (env.put d v) σ) : arun P ops ({ dst := d, op := .binOp op t x y q, type := ty, pos := pos, after := af, guard := none } :: rest) K env σ := R.op rfl (a_int hx hy h k)
theorem sr {op : BinOp} {t q : TypeId} {x y : Operand} {a b : ByteArray} (hx : opd env x = some (.str a)) (hy : opd env y = some (.str b)) (h : strBin op a b = some v) (k : arun P ops rest K (env.put d v) σ) : arun P ops ({ dst := d, op := .binOp op t x y q, type := ty, pos := pos, after := af, guard := none } :: rest) K env σ := R.op rfl (a_str hx hy h k)
theorem ld {t : TypeId} {x : Operand} {ti : TI} {id off : Nat} {cs : List AV} (h1 : tiOf P t = some ti) (hx : opd env x = some (.ptr id off)) (hσ : σ id = some (.cells cs)) (hv : lod ti cs off = some v) (k : arun P ops rest K (env.put d v) σ) :
    arun P ops ({ dst := d, op := .load t x, type := ty, pos := pos, after := af, guard := none } :: rest) K env σ := R.op rfl (a_loadPtr h1 hx hσ hv k)
theorem li {t : TypeId} {x : Operand} {ti : TI} {off : Nat} {cs : List AV} (h1 : tiOf P t = some ti) (hx : opd env x = some (.iptr cs off)) (hv : lod ti cs off = some v) (k : arun P ops rest K (env.put d v) σ) :
    arun P ops ({ dst := d, op := .load t x, type := ty, pos := pos, after := af, guard := none } :: rest) K env σ := R.op rfl (a_loadIptr h1 hx hv k)
theorem fp {t : TypeId} {x : Operand} {f : Nat} {ti : TI} {fs : List (Nat × Nat × Bool)} {eq : Option (List EqK)} {id o off sz : Nat} {ag : Bool} (h1 : tiOf P t = some ti) (h2 : ti.sh = .struct fs eq) (h : opd env x = some (.ptr id o)) (hf : fs[f]? = some (off, sz, ag)) (hz : sz ≠ 0) (k : arun P ops rest K (env.put d (.ptr id (o + off))) σ) :
    arun P ops ({ dst := d, op := .fieldAddr t x f, type := ty, pos := pos, after := af, guard := none } :: rest) K env σ := R.op rfl (a_fieldPtr h1 h2 h hf hz k)
theorem ex {x : Operand} {i : Nat} {vs : List AV} (hx : opd env x = some (.tup vs)) (hv : vs[i]? = some v) (k : arun P ops rest K (env.put d v) σ) : arun P ops ({ dst := d, op := .extract x i, type := ty, pos := pos, after := af, guard := none } :: rest) K env σ := R.op rfl (a_extract hx hv k)
theorem np {x : Operand} {i off : Nat} (h : opd env x = some (.ptr i off)) (k : arun P ops rest K (env.put d (.ptr i off)) σ) : arun P ops ({ dst := d, op := .nilCheck x, type := ty, pos := pos, after := af, guard := none } :: rest) K env σ := R.op rfl (a_nilPtr h k)
theorem no {t : TypeId} {x : Operand} {b : Bool} (h : opd env x = some (.bool b)) (k : arun P ops rest K (env.put d (.bool (!b))) σ) : arun P ops ({ dst := d, op := .unOp .not t x, type := ty, pos := pos, after := af, guard := none } :: rest) K env σ := R.op rfl (a_not h k)
theorem cl {f : Operand} {args : Array Operand} {ts : Array TypeId} {g : FuncId} {caps as : List AV} (hf : opd env f = some (.fn g caps)) (ha : opds env args.toList = some as) (k : AC P g (as ++ caps) σ fun v σ' => arun P ops rest K (env.put d v) σ') :
    arun P ops ({ dst := d, op := .call { callee := .value f, args := args, argTypes := ts }, type := ty, pos := pos, after := af, guard := none } :: rest) K env σ := R.op rfl (a_call hf ha k)
/-- A call that leaves the store as it is, its arguments as they are. -/
theorem cp {f : Operand} {args : Array Operand} {ts : Array TypeId} {g : FuncId} {caps as as' : List AV} {w : AV} (h : AC P g as' σ fun v s => v = w ∧ s = σ) (hf : opd env f = some (.fn g caps)) (ha : opds env args.toList = some as) (hl : LeL (as ++ caps) as') (k : arun P ops rest K (env.put d w) σ) :
    arun P ops ({ dst := d, op := .call { callee := .value f, args := args, argTypes := ts }, type := ty, pos := pos, after := af, guard := none } :: rest) K env σ := R.op rfl (a_call hf ha (AC.goP h hl k))
end

end Go.Am
