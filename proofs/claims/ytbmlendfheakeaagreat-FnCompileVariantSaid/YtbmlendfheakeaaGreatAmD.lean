/-
  The abstract machine's store and the model's memory: what an allocation, a write and a call do to both.
-/
import Derived.Test.YtbmlendfheakeaaGreatAmC
namespace Go.Am

theorem cell?_of_heap {w w' : World} {b : Nat} (h : w'.heap[b]? = w.heap[b]?) (i : Nat) : w'.cell? ⟨b, i, none⟩ = w.cell? ⟨b, i, none⟩ := by
  simp [World.cell?, h]

theorem cell?_cells {w : World} {b : Nat} {arr : Array Value} {T : TypeId} {fz : Nat × Nat} (h : w.heap[b]? = some (.cells arr T fz)) (i : Nat) : w.cell? ⟨b, i, none⟩ = arr[i]? := by
  simp [World.cell?, h]

theorem ObjRel.congr {Γ : Gh} {w w' : World} {l : Nat × Nat × Nat} {o : AObj} (h : w'.heap[l.1]? = w.heap[l.1]?) (ho : ObjRel Γ w l o) : ObjRel Γ w' l o := by
  cases o <;> simpa only [ObjRel, h] using ho

theorem ObjRel.ext {Γ Γ' : Gh} {w : World} {l : Nat × Nat × Nat} {o : AObj} (he : Ext Γ Γ') (hi : ∀ i, Γ.im l.1 i = none → Γ'.im l.1 i = none) (ho : ObjRel Γ w l o) : ObjRel Γ' w l o := by
  cases o with
  | cells cs =>
    obtain ⟨h0, h1, arr, T, fz, h2, h3, h4, h5, h6⟩ := ho
    exact ⟨h0, fun i => hi i (h1 i), arr, T, fz, h2, h3, h4, h5, VRL.ext he _ _ h6⟩
  | map es =>
    obtain ⟨h0, h1, ents, c, h2, h3⟩ := ho
    exact ⟨h0, fun i => hi i (h1 i), ents, c, h2, MapRel.ext he _ _ h3⟩
  | tok n sz =>
    obtain ⟨h1, h3⟩ := ho
    exact ⟨fun i hh => hi i (h1 i hh), h3⟩

theorem Rel.weaken {σ σ' : St} {Γ : Gh} {w : World} (h : Rel σ Γ w) (hs : ∀ id o, σ' id = some o → σ id = some o) : Rel σ' Γ w where
  im := h.im
  obj := fun id o ho => h.obj id o (hs id o ho)
  inj := fun i j li lj hi hj => by
    refine h.inj i j li lj ?_ ?_
    · cases hx : σ' i with
      | none => exact absurd hx hi
      | some o => rw [hs i o hx]; simp
    · cases hx : σ' j with
      | none => exact absurd hx hj
      | some o => rw [hs j o hx]; simp
  low := h.low
  few := h.few

theorem Owned.weaken {σ σ' : St} {Γ : Gh} {b : Nat} (hs : ∀ id o, σ' id = some o → σ id = some o) (h : Owned Γ σ' b) : Owned Γ σ b := by
  obtain ⟨id, l, h1, h2, h3⟩ := h
  refine ⟨id, l, ?_, h2, h3⟩
  cases hx : σ' id with
  | none => exact absurd hx h1
  | some o => rw [hs id o hx]; simp

theorem Step.refl {σ : St} {Γ : Gh} {w : World} (h : Rel σ Γ w) : Step Γ σ w Γ σ w where
  ext := Ext.refl Γ
  rel := h
  pres := fun _ _ _ => rfl
  imo := fun _ _ _ _ => rfl
  own := fun _ h => .inl h
  size := Nat.le_refl _
  os := rfl
  tape := rfl
  output := rfl

theorem Step.trans {σ σ1 σ2 : St} {Γ Γ1 Γ2 : Gh} {w w1 w2 : World} (h : Step Γ σ w Γ1 σ1 w1) (k : Step Γ1 σ1 w1 Γ2 σ2 w2) : Step Γ σ w Γ2 σ2 w2 where
  ext := h.ext.trans k.ext
  rel := k.rel
  pres := fun b hb hn => by
    rw [k.pres b (Nat.lt_of_lt_of_le hb h.size) ?_, h.pres b hb hn]
    intro ho
    rcases h.own b ho with h1 | h1
    · exact hn h1
    · omega
  imo := fun b i hb hn => by
    rw [k.imo b i (Nat.lt_of_lt_of_le hb h.size) ?_, h.imo b i hb hn]
    intro ho
    rcases h.own b ho with h1 | h1
    · exact hn h1
    · omega
  own := fun b hb => by
    rcases k.own b hb with h1 | h1
    · exact h.own b h1
    · exact .inr (Nat.le_trans h.size h1)
  size := Nat.le_trans h.size k.size
  os := k.os.trans h.os
  tape := k.tape.trans h.tape
  output := k.output.trans h.output

theorem Step.weaken {σ σ1 σ2 : St} {Γ Γ1 : Gh} {w w1 : World} (h : Step Γ σ w Γ1 σ1 w1) (hs : ∀ id o, σ2 id = some o → σ1 id = some o) : Step Γ σ w Γ1 σ2 w1 where
  ext := h.ext
  rel := h.rel.weaken hs
  pres := h.pres
  imo := h.imo
  own := fun b hb => h.own b (hb.weaken hs)
  size := h.size
  os := h.os
  tape := h.tape
  output := h.output

/-- The world may draw. -/
theorem Step.draw {σ : St} {Γ : Gh} {w : World} (h : Rel σ Γ w) (n : Nat) : Step Γ σ w Γ σ { w with drawn := n } where
  ext := Ext.refl Γ
  rel := ⟨h.im, h.obj, h.inj, h.low, h.few⟩
  pres := fun _ _ _ => rfl
  imo := fun _ _ _ _ => rfl
  own := fun _ h => .inl h
  size := Nat.le_refl _
  os := rfl
  tape := rfl
  output := rfl

theorem Rel.fresh {σ : St} {Γ : Gh} {w : World} (h : Rel σ Γ w) : ∃ id, σ id = none ∧ Γ.loc id = none := by
  obtain ⟨N, hN⟩ := h.few
  refine ⟨N, ?_, hN N (Nat.le_refl _)⟩
  cases hx : σ N with
  | none => rfl
  | some o =>
    obtain ⟨l, hl, _⟩ := h.obj N o hx
    rw [hN N (Nat.le_refl _)] at hl; cases hl

theorem Rel.im_low {σ : St} {Γ : Gh} {w : World} (h : Rel σ Γ w) {b i : Nat} {x : Value} (hx : Γ.im b i = some x) : b < w.heap.size := by
  have := (h.im b i x hx).1
  rcases Nat.lt_or_ge b w.heap.size with hb | hb
  · exact hb
  · simp [World.cell?, Array.getElem?_eq_none hb] at this

theorem heap_push_old {w : World} {o : Obj} {b : Nat} (h : b < w.heap.size) : (w.alloc o).heap[b]? = w.heap[b]? := by
  show (w.heap.push o)[b]? = _
  rw [Array.getElem?_push, if_neg (by omega)]

theorem heap_push_new (w : World) (o : Obj) : (w.alloc o).heap[w.heap.size]? = some o := by
  show (w.heap.push o)[w.heap.size]? = _
  simp

theorem size_push (w : World) (o : Obj) : (w.alloc o).heap.size = w.heap.size + 1 := by
  show (w.heap.push o).size = _
  simp

/-- A new block, under a new name. Its cells may be told to be never written again. -/
def Gh.add (Γ : Gh) (n : Nat) (ims : Nat → Option Value) (id : Nat) (off c : Nat) : Gh where
  im := fun b i => if b = n then ims i else Γ.im b i
  loc := fun j => if j = id then some (n, off, c) else Γ.loc j

theorem Gh.add_ext {σ : St} {Γ : Gh} {w : World} (hr : Rel σ Γ w) (ims : Nat → Option Value) (id off c : Nat) (hid : Γ.loc id = none) : Ext Γ (Γ.add w.heap.size ims id off c) where
  im := fun b i x hx => by
    have := hr.im_low hx
    simp only [Gh.add, if_neg (Nat.ne_of_lt this)]; exact hx
  loc := fun j l hl => by
    simp only [Gh.add]; split
    · rename_i h; rw [h, hid] at hl; cases hl
    · exact hl

theorem Step.add {σ : St} {Γ : Gh} {w : World} (hr : Rel σ Γ w) (ob : Obj) (ims : Nat → Option Value) (id off c : Nat) (ao : AObj) (hσ : σ id = none) (hid : Γ.loc id = none)
    (him : ∀ i x, ims i = some x → (w.alloc ob).cell? ⟨w.heap.size, i, none⟩ = some x ∧ x.oneCell' = true)
    (ho : ObjRel (Γ.add w.heap.size ims id off c) (w.alloc ob) (w.heap.size, off, c) ao) :
    Step Γ σ w (Γ.add w.heap.size ims id off c) (σ.set id (some ao)) (w.alloc ob) := by
  have hext := Gh.add_ext hr ims id off c hid
  refine ⟨hext, ⟨?_, ?_, ?_, ?_, ?_⟩, fun b hb _ => heap_push_old hb, fun b i hb _ => by simp only [Gh.add, if_neg (Nat.ne_of_lt hb)], ?_, by rw [size_push]; omega, rfl, rfl, rfl⟩
  · intro b i x hx
    simp only [Gh.add] at hx
    split at hx
    · rename_i hb; subst hb; exact him i x hx
    · have := hr.im_low hx
      rw [cell?_of_heap (heap_push_old this)]; exact hr.im b i x hx
  · intro j o hj
    by_cases h : j = id
    · subst h
      rw [St.set_same] at hj; cases hj
      exact ⟨_, by simp [Gh.add], ho⟩
    · rw [St.set_ne _ _ h] at hj
      obtain ⟨l, hl, hor⟩ := hr.obj j o hj
      have hlow := hr.low j l hl
      refine ⟨l, by simp [Gh.add, h, hl], ?_⟩
      refine ObjRel.congr (heap_push_old hlow) (hor.ext hext fun i hi => ?_)
      simp only [Gh.add, if_neg (Nat.ne_of_lt hlow)]; exact hi
  · intro i j li lj hi hj hli hlj hb
    simp only [Gh.add] at hli hlj
    by_cases h1 : i = id <;> by_cases h2 : j = id
    · rw [h1, h2]
    · simp only [h1, if_true] at hli; cases hli
      simp only [if_neg h2] at hlj
      have := hr.low j lj hlj
      simp only at hb; omega
    · simp only [h2, if_true] at hlj; cases hlj
      simp only [if_neg h1] at hli
      have := hr.low i li hli
      simp only at hb; omega
    · rw [St.set_ne _ _ h1] at hi
      rw [St.set_ne _ _ h2] at hj
      simp only [if_neg h1] at hli
      simp only [if_neg h2] at hlj
      exact hr.inj i j li lj hi hj hli hlj hb
  · intro j l hl
    simp only [Gh.add] at hl
    rw [size_push]
    split at hl
    · cases hl; simp
    · have := hr.low j l hl; omega
  · obtain ⟨N, hN⟩ := hr.few
    refine ⟨max N (id + 1), fun j hj => ?_⟩
    have h1 : j ≠ id := by omega
    simp only [Gh.add, if_neg h1]; exact hN j (by omega)
  · rintro b ⟨j, l, h1, h2, h3⟩
    by_cases h : j = id
    · subst h
      simp only [Gh.add, if_true] at h2; cases h2
      exact .inr (by simp at h3; omega)
    · simp only [Gh.add, if_neg h] at h2
      rw [St.set_ne _ _ h] at h1
      exact .inl ⟨j, l, h1, h2, h3⟩

/-- A new block that is never written again. -/
theorem Step.addIm {σ : St} {Γ : Gh} {w : World} (hr : Rel σ Γ w) (ob : Obj) (ims : Nat → Option Value)
    (him : ∀ i x, ims i = some x → (w.alloc ob).cell? ⟨w.heap.size, i, none⟩ = some x ∧ x.oneCell' = true) :
    Step Γ σ w ⟨fun b i => if b = w.heap.size then ims i else Γ.im b i, Γ.loc⟩ σ (w.alloc ob) := by
  have hext : Ext Γ ⟨fun b i => if b = w.heap.size then ims i else Γ.im b i, Γ.loc⟩ :=
    ⟨fun b i x hx => by
      have := hr.im_low hx
      simp only [if_neg (Nat.ne_of_lt this)]; exact hx, fun _ _ h => h⟩
  refine ⟨hext, ⟨?_, ?_, hr.inj, ?_, hr.few⟩, fun b hb _ => heap_push_old hb, fun b i hb _ => by simp only [if_neg (Nat.ne_of_lt hb)], fun b h => .inl h, by rw [size_push]; omega, rfl, rfl, rfl⟩
  · intro b i x hx
    simp only at hx
    split at hx
    · rename_i hb; subst hb; exact him i x hx
    · have := hr.im_low hx
      rw [cell?_of_heap (heap_push_old this)]; exact hr.im b i x hx
  · intro j o hj
    obtain ⟨l, hl, hor⟩ := hr.obj j o hj
    have hlow := hr.low j l hl
    refine ⟨l, hl, ObjRel.congr (heap_push_old hlow) (hor.ext hext fun i hi => ?_)⟩
    simp only [if_neg (Nat.ne_of_lt hlow)]; exact hi
  · intro j l hl
    rw [size_push]
    have := hr.low j l hl; omega

/-- A write into a block of the store. 'Γ'' may tell more of the block's cells. -/
theorem Step.upd {σ : St} {Γ Γ' : Gh} {w w' : World} (hr : Rel σ Γ w) {id : Nat} {o o' : AObj} {l : Nat × Nat × Nat} (hσ : σ id = some o) (hl : Γ.loc id = some l)
    (id' : Nat) (l' : Nat × Nat × Nat) (hl1 : l'.1 = l.1) (hid : id' = id ∨ (σ id' = none ∧ Γ.loc id' = none))
    (hloc : ∀ j, Γ'.loc j = if j = id' then some l' else Γ.loc j) (hloc' : id' = id → l' = l)
    (him : ∀ b i, b ≠ l.1 → Γ'.im b i = Γ.im b i) (him' : ∀ i x, Γ.im l.1 i = some x → Γ'.im l.1 i = some x)
    (hb : ∀ k, k ≠ l.1 → w'.heap[k]? = w.heap[k]?) (hsz : w'.heap.size = w.heap.size)
    (hc : ∀ i x, Γ'.im l.1 i = some x → w'.cell? ⟨l.1, i, none⟩ = some x ∧ x.oneCell' = true)
    (ho : ObjRel Γ' w' l' o') (hos : w'.os = w.os) (ht : w'.tape = w.tape) (hout : w'.output = w.output) :
    Step Γ σ w Γ' ((σ.set id none).set id' (some o')) w' := by
  have hext : Ext Γ Γ' := by
    refine ⟨fun b i x hx => ?_, fun j k hk => ?_⟩
    · by_cases h : b = l.1
      · subst h; exact him' i x hx
      · rw [him b i h]; exact hx
    · rw [hloc]; split
      · rename_i h; subst h
        rcases hid with h | ⟨_, h⟩
        · rw [hloc' h]; rw [h, hl] at hk; exact hk
        · rw [h] at hk; cases hk
      · exact hk
  have hget : ∀ j, j ≠ id' → j ≠ id → ((σ.set id none).set id' (some o')) j = σ j := fun j h1 h2 => by rw [St.set_ne _ _ h1, St.set_ne _ _ h2]
  have hown : σ id ≠ none := by rw [hσ]; simp
  have hlow := hr.low id l hl
  refine ⟨hext, ⟨?_, ?_, ?_, ?_, ?_⟩, ?_, fun b i _ hn => him b i fun h => hn ⟨id, l, hown, hl, h.symm⟩, ?_, by rw [hsz]; exact Nat.le_refl _, hos, ht, hout⟩
  · intro b i x hx
    by_cases h : b = l.1
    · subst h; exact hc i x hx
    · rw [him b i h] at hx
      rw [cell?_of_heap (hb b h)]; exact hr.im b i x hx
  · intro j p hj
    by_cases h1 : j = id'
    · subst h1
      rw [St.set_same] at hj; cases hj
      exact ⟨l', by rw [hloc]; simp, ho⟩
    · by_cases h2 : j = id
      · subst h2; rw [St.set_ne _ _ h1, St.set_same] at hj; cases hj
      · rw [hget j h1 h2] at hj
        obtain ⟨k, hk, hor⟩ := hr.obj j p hj
        have hne : k.1 ≠ l.1 := fun h => h2 (hr.inj j id k l (by rw [hj]; simp) hown hk hl h)
        refine ⟨k, by rw [hloc, if_neg h1]; exact hk, ObjRel.congr (hb _ hne) (hor.ext hext fun i hi => ?_)⟩
        rw [him _ _ hne]; exact hi
  · intro i j li lj hi hj hli hlj hbb
    rw [hloc] at hli hlj
    by_cases h1 : i = id' <;> by_cases h2 : j = id'
    · rw [h1, h2]
    · simp only [h1, if_true] at hli; cases hli
      simp only [if_neg h2] at hlj
      by_cases h3 : j = id
      · subst h3; rw [St.set_ne _ _ h2, St.set_same] at hj; exact absurd rfl hj
      · rw [hget j h2 h3] at hj
        exact absurd (hr.inj j id lj l hj hown hlj hl (by rw [← hbb, hl1])) h3
    · simp only [h2, if_true] at hlj; cases hlj
      simp only [if_neg h1] at hli
      by_cases h3 : i = id
      · subst h3; rw [St.set_ne _ _ h1, St.set_same] at hi; exact absurd rfl hi
      · rw [hget i h1 h3] at hi
        exact absurd (hr.inj i id li l hi hown hli hl (by rw [hbb, hl1])) h3
    · simp only [if_neg h1] at hli
      simp only [if_neg h2] at hlj
      have f : ∀ k, k ≠ id' → ((σ.set id none).set id' (some o')) k ≠ none → σ k ≠ none := fun k hk hn => by
        by_cases h3 : k = id
        · subst h3; rw [hσ]; simp
        · rwa [hget k hk h3] at hn
      exact hr.inj i j li lj (f i h1 hi) (f j h2 hj) hli hlj hbb
  · intro j k hk
    rw [hloc] at hk
    rw [hsz]
    split at hk
    · cases hk; rw [hl1]; exact hlow
    · exact hr.low j k hk
  · obtain ⟨N, hN⟩ := hr.few
    refine ⟨max N (id' + 1), fun j hj => ?_⟩
    have h1 : j ≠ id' := by omega
    rw [hloc, if_neg h1]; exact hN j (by omega)
  · intro b hb' hn
    refine hb b fun h => hn ⟨id, l, hown, hl, h.symm⟩
  · rintro b ⟨j, k, h1, h2, h3⟩
    refine .inl ?_
    rw [hloc] at h2
    by_cases h4 : j = id'
    · simp only [h4, if_true] at h2; cases h2
      exact ⟨id, l, hown, hl, by rw [← h3, hl1]⟩
    · simp only [if_neg h4] at h2
      by_cases h5 : j = id
      · subst h5; exact ⟨j, k, hown, h2, h3⟩
      · rw [hget j h4 h5] at h1
        exact ⟨j, k, h1, h2, h3⟩

theorem St.set_none_set (σ : St) (id : Nat) (o : Option AObj) : (σ.set id none).set id o = σ.set id o := St.set_set _ _ _ _

end Go.Am
