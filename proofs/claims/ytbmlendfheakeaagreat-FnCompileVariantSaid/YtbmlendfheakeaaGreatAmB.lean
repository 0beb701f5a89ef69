/-
  What is known of the abstract machine's relation: it only grows; its lists; its store.
-/
import Derived.Test.YtbmlendfheakeaaGreatAmA
namespace Go.Am

theorem Ext.refl (Γ : Gh) : Ext Γ Γ := ⟨fun _ _ _ h => h, fun _ _ h => h⟩
theorem Ext.trans {a b c : Gh} (h : Ext a b) (k : Ext b c) : Ext a c := ⟨fun _ _ _ x => k.im _ _ _ (h.im _ _ _ x), fun _ _ x => k.loc _ _ (h.loc _ _ x)⟩

section
variable {Γ Γ' : Gh}

theorem ImmAt.ext (h : Ext Γ Γ') {a : Option (Nat × Nat)} {xs : List Value} (hx : ImmAt Γ a xs) : ImmAt Γ' a xs := by
  cases a with
  | none => exact hx
  | some p => exact fun i x hi => h.im _ _ _ (hx i x hi)

theorem TkOk.ext (h : Ext Γ Γ') {tk : Tk} {a : Option (Nat × Nat)} {n c : Nat} (hx : TkOk Γ tk a n c) : TkOk Γ' tk a n c := by
  cases tk with
  | no => trivial
  | full => exact hx
  | own id => obtain ⟨b, o, h1, h2⟩ := hx; exact ⟨b, o, h1, h.loc _ _ h2⟩

mutual
theorem VR.ext (h : Ext Γ Γ') : ∀ (v : AV) (cv : Value), VR Γ v cv → VR Γ' v cv
  | .bool _, _, hv => by simpa only [VR] using hv
  | .int _ _, _, hv => by simpa only [VR] using hv
  | .str _, _, hv => by simpa only [VR] using hv
  | .agg cs, _, hv => by
    simp only [VR] at hv ⊢
    obtain ⟨xs, h1, h2⟩ := hv
    exact ⟨xs, h1, VRL.ext h cs xs h2⟩
  | .tup vs, _, hv => by
    simp only [VR] at hv ⊢
    obtain ⟨xs, h1, h2⟩ := hv
    exact ⟨xs, h1, VRL.ext h vs xs h2⟩
  | .imm sz es tk, _, hv => by
    simp only [VR] at hv ⊢
    obtain ⟨a, cap, xs, h1, h2, h3, h4, h5, h6⟩ := hv
    exact ⟨a, cap, xs, h1, h2, h3, VRE.ext h sz es xs h4, h5.ext h, h6.ext h⟩
  | .ref id _ _ _, _, hv => by
    simp only [VR] at hv ⊢
    obtain ⟨b, c, h1, h2, h3⟩ := hv
    exact ⟨b, c, h.loc _ _ h1, h2, h3⟩
  | .nilp, _, hv => by simpa only [VR] using hv
  | .ptr id _, _, hv => by
    simp only [VR] at hv ⊢
    obtain ⟨b, c, h1, h2⟩ := hv
    exact ⟨b, c, h.loc _ _ h1, h2⟩
  | .iptr cs _, _, hv => by
    simp only [VR] at hv ⊢
    obtain ⟨b, o, xs, h1, h2, h3⟩ := hv
    exact ⟨b, o, xs, h1, VRL.ext h cs xs h2, h3.ext h⟩
  | .nilf, _, hv => by simpa only [VR] using hv
  | .fn _ caps, _, hv => by
    simp only [VR] at hv ⊢
    obtain ⟨xs, h1, h2⟩ := hv
    exact ⟨xs, h1, VRL.ext h caps xs h2⟩
  | .nilm, _, hv => by simpa only [VR] using hv
  | .mp id, _, hv => by
    simp only [VR] at hv ⊢
    obtain ⟨b, c, h1, h2⟩ := hv
    exact ⟨b, c, h.loc _ _ h1, h2⟩
theorem VRL.ext (h : Ext Γ Γ') : ∀ (cs : List AV) (xs : List Value), VRL Γ cs xs → VRL Γ' cs xs
  | [], _, hv => by simpa only [VRL] using hv
  | c :: cs, _, hv => by
    simp only [VRL] at hv ⊢
    obtain ⟨y, ys, h1, h2, h3⟩ := hv
    exact ⟨y, ys, h1, VR.ext h c y h2, VRL.ext h cs ys h3⟩
theorem VRE.ext (h : Ext Γ Γ') : ∀ (sz : Nat) (es : List AV) (xs : List Value), VRE Γ sz es xs → VRE Γ' sz es xs
  | _, [], _, hv => by simpa only [VRE] using hv
  | sz, e :: es, _, hv => by
    simp only [VRE] at hv ⊢
    obtain ⟨y, ys, h1, h2, h3, h4⟩ := hv
    exact ⟨y, ys, h1, h2, VR.ext h e y h3, VRE.ext h sz es ys h4⟩
end

theorem MapRel.ext (h : Ext Γ Γ') : ∀ (es : List (AV × AV)) (ents : List MapEntry), MapRel Γ es ents → MapRel Γ' es ents
  | [], _, hv => hv
  | _ :: es, _, ⟨e, r, h1, h2, h3, h4⟩ => ⟨e, r, h1, h2.ext h, h3.ext h, MapRel.ext h es r h4⟩

-- lists
theorem VRL.length : ∀ {cs : List AV} {xs : List Value}, VRL Γ cs xs → xs.length = cs.length
  | [], _, h => by simp only [VRL] at h; simp [h]
  | _ :: _, _, h => by
    simp only [VRL] at h
    obtain ⟨y, ys, rfl, _, h3⟩ := h
    simp [VRL.length h3]

theorem VRL.get : ∀ {cs : List AV} {xs : List Value}, VRL Γ cs xs → ∀ {i : Nat} {c : AV}, cs[i]? = some c → ∃ x, xs[i]? = some x ∧ VR Γ c x
  | [], _, _, _, _, h => by simp at h
  | c :: cs, _, h, i, d, hi => by
    simp only [VRL] at h
    obtain ⟨y, ys, rfl, h2, h3⟩ := h
    cases i with
    | zero => simp at hi; subst hi; exact ⟨y, by simp, h2⟩
    | succ i => simp at hi; obtain ⟨x, hx, hr⟩ := VRL.get h3 hi; exact ⟨x, by simpa using hx, hr⟩

theorem VRL.getD {cs : List AV} {xs : List Value} (h : VRL Γ cs xs) {i : Nat} {c : AV} (hi : cs[i]? = some c) : VR Γ c (xs.getD i undef) := by
  obtain ⟨x, hx, hr⟩ := h.get hi
  simp [List.getD, hx, hr]

theorem VRL.append : ∀ {cs ds : List AV} {xs ys : List Value}, VRL Γ cs xs → VRL Γ ds ys → VRL Γ (cs ++ ds) (xs ++ ys)
  | [], _, _, _, h, k => by simp only [VRL] at h; subst h; simpa using k
  | c :: cs, _, _, _, h, k => by
    simp only [VRL] at h
    obtain ⟨y, ys, rfl, h2, h3⟩ := h
    simp only [List.cons_append, VRL]
    exact ⟨y, _, rfl, h2, VRL.append h3 k⟩

theorem VRL.take : ∀ {cs : List AV} {xs : List Value} (n : Nat), VRL Γ cs xs → VRL Γ (cs.take n) (xs.take n)
  | [], _, n, h => by simp only [VRL] at h; subst h; simp [VRL]
  | c :: cs, _, 0, h => by simp [VRL]
  | c :: cs, _, n + 1, h => by
    simp only [VRL] at h
    obtain ⟨y, ys, rfl, h2, h3⟩ := h
    simp only [List.take_succ_cons, VRL]
    exact ⟨y, _, rfl, h2, VRL.take n h3⟩

theorem VRL.drop : ∀ {cs : List AV} {xs : List Value} (n : Nat), VRL Γ cs xs → VRL Γ (cs.drop n) (xs.drop n)
  | [], _, n, h => by simp only [VRL] at h; subst h; simp [VRL]
  | c :: cs, _, 0, h => by simpa using h
  | c :: cs, _, n + 1, h => by
    simp only [VRL] at h
    obtain ⟨y, ys, rfl, h2, h3⟩ := h
    simpa using VRL.drop n h3

theorem VRL.cons {c : AV} {cs : List AV} {x : Value} {xs : List Value} (h : VR Γ c x) (k : VRL Γ cs xs) : VRL Γ (c :: cs) (x :: xs) := by
  simp only [VRL]; exact ⟨x, xs, rfl, h, k⟩
theorem VRL.nil : VRL Γ [] [] := by simp only [VRL]

theorem VRL.cons_inv {c : AV} {cs : List AV} {xs : List Value} (h : VRL Γ (c :: cs) xs) : ∃ y ys, xs = y :: ys ∧ VR Γ c y ∧ VRL Γ cs ys := by
  simpa only [VRL] using h
theorem VRL.nil_inv {xs : List Value} (h : VRL Γ [] xs) : xs = [] := by simpa only [VRL] using h

/-- A value's cells. -/
theorem VR.cells : ∀ {v : AV} {cv : Value}, VR Γ v cv → VRL Γ v.cells cv.cells.toList := by
  intro v cv h
  cases v with
  | agg cs => simp only [VR] at h; obtain ⟨xs, rfl, h2⟩ := h; simpa [Value.cells, AV.cells] using h2
  | bool b => have h' := h; simp only [VR] at h'; subst h'; exact VRL.cons h VRL.nil
  | int k n => have h' := h; simp only [VR] at h'; subst h'; exact VRL.cons h VRL.nil
  | str s => have h' := h; simp only [VR] at h'; subst h'; exact VRL.cons h VRL.nil
  | tup vs => have h' := h; simp only [VR] at h'; obtain ⟨xs, rfl, _⟩ := h'; exact VRL.cons h VRL.nil
  | imm sz es tk => have h' := h; simp only [VR] at h'; obtain ⟨a, cap, xs, rfl, _⟩ := h'; exact VRL.cons h VRL.nil
  | ref id off len cap => have h' := h; simp only [VR] at h'; obtain ⟨b, c, _, _, rfl⟩ := h'; exact VRL.cons h VRL.nil
  | nilp => have h' := h; simp only [VR] at h'; subst h'; exact VRL.cons h VRL.nil
  | ptr id off => have h' := h; simp only [VR] at h'; obtain ⟨b, c, _, rfl⟩ := h'; exact VRL.cons h VRL.nil
  | iptr cs off => have h' := h; simp only [VR] at h'; obtain ⟨b, o, xs, rfl, _⟩ := h'; exact VRL.cons h VRL.nil
  | nilf => have h' := h; simp only [VR] at h'; subst h'; exact VRL.cons h VRL.nil
  | fn f caps => have h' := h; simp only [VR] at h'; obtain ⟨xs, rfl, _⟩ := h'; exact VRL.cons h VRL.nil
  | nilm => have h' := h; simp only [VR] at h'; subst h'; exact VRL.cons h VRL.nil
  | mp id => have h' := h; simp only [VR] at h'; obtain ⟨b, c, _, rfl⟩ := h'; exact VRL.cons h VRL.nil

theorem VR.cells_size {v : AV} {cv : Value} (h : VR Γ v cv) : cv.cells.size = v.cells.length := by
  have := h.cells.length; simpa using this

/-- A value of one cell. -/
theorem VR.sc {v : AV} {cv : Value} (h : VR Γ v cv) (hs : v.sc = true) : cv.oneCell' = true := by
  cases v with
  | agg cs => simp [AV.sc] at hs
  | tup cs => simp [AV.sc] at hs
  | bool b => simp only [VR] at h; subst h; rfl
  | int k n => simp only [VR] at h; subst h; rfl
  | str s => simp only [VR] at h; subst h; rfl
  | imm sz es tk => simp only [VR] at h; obtain ⟨a, cap, xs, rfl, _⟩ := h; rfl
  | ref id off len cap => simp only [VR] at h; obtain ⟨b, c, _, _, rfl⟩ := h; rfl
  | nilp => simp only [VR] at h; subst h; rfl
  | ptr id off => simp only [VR] at h; obtain ⟨b, c, _, rfl⟩ := h; rfl
  | iptr cs off => simp only [VR] at h; obtain ⟨b, o, xs, rfl, _⟩ := h; rfl
  | nilf => simp only [VR] at h; subst h; rfl
  | fn f caps => simp only [VR] at h; obtain ⟨xs, rfl, _⟩ := h; rfl
  | nilm => simp only [VR] at h; subst h; rfl
  | mp id => simp only [VR] at h; obtain ⟨b, c, _, rfl⟩ := h; rfl

theorem VRL.sc : ∀ {cs : List AV} {xs : List Value}, VRL Γ cs xs → cs.all AV.sc = true → ∀ x ∈ xs, x.oneCell' = true
  | [], _, h, _ => by simp only [VRL] at h; subst h; simp
  | c :: cs, _, h, ha => by
    simp only [VRL] at h
    obtain ⟨y, ys, rfl, h2, h3⟩ := h
    simp only [List.all_cons, Bool.and_eq_true] at ha
    intro x hx
    cases hx with
    | head => exact h2.sc ha.1
    | tail _ hx => exact VRL.sc h3 ha.2 x hx

-- elements
theorem VRE.length : ∀ {sz : Nat} {es : List AV} {xs : List Value}, VRE Γ sz es xs → xs.length = es.length * sz
  | _, [], _, h => by simp only [VRE] at h; simp [h]
  | sz, _ :: es, _, h => by
    simp only [VRE] at h
    obtain ⟨y, ys, rfl, h2, _, h4⟩ := h
    have := VRE.length h4
    simp only [List.length_append, Array.length_toList, List.length_cons]
    rw [this, h2, Nat.succ_mul, Nat.add_comm]

theorem VRE.get : ∀ {sz : Nat} {es : List AV} {xs : List Value}, VRE Γ sz es xs → ∀ {i : Nat} {e : AV}, es[i]? = some e →
    ∃ y, VR Γ e y ∧ y.cells.size = sz ∧ ∀ (j : Nat) x, y.cells.toList[j]? = some x → xs[i * sz + j]? = some x
  | _, [], _, _, _, _, h => by simp at h
  | sz, e :: es, _, h, i, d, hi => by
    simp only [VRE] at h
    obtain ⟨y, ys, rfl, h2, h3, h4⟩ := h
    cases i with
    | zero =>
      simp at hi; subst hi
      refine ⟨y, h3, h2, fun j x hj => ?_⟩
      have hlt : j < y.cells.toList.length := (List.getElem?_eq_some_iff.1 hj).1
      rw [Nat.zero_mul, Nat.zero_add, List.getElem?_append_left hlt]; exact hj
    | succ i =>
      simp at hi
      obtain ⟨z, hz, hs, hc⟩ := VRE.get h4 hi
      refine ⟨z, hz, hs, fun j x hj => ?_⟩
      have e1 : y.cells.toList.length = sz := by simpa using h2
      have e2 : (i + 1) * sz + j = y.cells.toList.length + (i * sz + j) := by rw [e1, Nat.succ_mul]; omega
      rw [e2, List.getElem?_append_right (by omega), Nat.add_sub_cancel_left]
      exact hc j x hj

theorem VRE.append : ∀ {sz : Nat} {es ds : List AV} {xs ys : List Value}, VRE Γ sz es xs → VRE Γ sz ds ys → VRE Γ sz (es ++ ds) (xs ++ ys)
  | _, [], _, _, _, h, k => by simp only [VRE] at h; subst h; simpa using k
  | _, e :: es, _, _, _, h, k => by
    simp only [VRE] at h
    obtain ⟨y, ys, rfl, h2, h3, h4⟩ := h
    simp only [List.cons_append, VRE]
    exact ⟨y, _, by rw [List.append_assoc], h2, h3, VRE.append h4 k⟩

theorem VRE.take : ∀ {sz : Nat} {es : List AV} {xs : List Value} (n : Nat), VRE Γ sz es xs → VRE Γ sz (es.take n) (xs.take (n * sz))
  | _, [], _, n, h => by simp only [VRE] at h; subst h; simp [VRE]
  | _, e :: es, _, 0, h => by simp [VRE]
  | sz, e :: es, _, n + 1, h => by
    simp only [VRE] at h
    obtain ⟨y, ys, rfl, h2, h3, h4⟩ := h
    simp only [List.take_succ_cons, VRE]
    have e1 : y.cells.toList.length = sz := by simpa using h2
    refine ⟨y, _, ?_, h2, h3, VRE.take n h4⟩
    rw [Nat.succ_mul, Nat.add_comm, List.take_append, e1, Nat.add_sub_cancel_left, List.take_of_length_le (by omega)]

theorem VRE.drop : ∀ {sz : Nat} {es : List AV} {xs : List Value} (n : Nat), VRE Γ sz es xs → VRE Γ sz (es.drop n) (xs.drop (n * sz))
  | _, [], _, n, h => by simp only [VRE] at h; subst h; simp [VRE]
  | _, e :: es, _, 0, h => by simpa using h
  | sz, e :: es, _, n + 1, h => by
    simp only [VRE] at h
    obtain ⟨y, ys, rfl, h2, h3, h4⟩ := h
    have e1 : y.cells.toList.length = sz := by simpa using h2
    have e2 : (n + 1) * sz = sz + n * sz := by rw [Nat.succ_mul, Nat.add_comm]
    have e3 : List.drop (sz + n * sz) y.cells.toList = [] := List.drop_eq_nil_of_le (by omega)
    rw [e2, List.drop_append, e1, Nat.add_sub_cancel_left, e3]
    simpa using VRE.drop n h4

/-- The elements' size may be told anew where there is none. -/
theorem VRE.nil (sz : Nat) : VRE Γ sz [] [] := by simp only [VRE]

theorem ImmAt.append {b o : Nat} {xs ys : List Value} (h : ImmAt Γ (some (b, o)) xs) (k : ImmAt Γ (some (b, o + xs.length)) ys) : ImmAt Γ (some (b, o)) (xs ++ ys) := by
  intro i x hi
  by_cases hlt : i < xs.length
  · rw [List.getElem?_append_left hlt] at hi; exact h i x hi
  · rw [List.getElem?_append_right (by omega)] at hi
    have := k _ _ hi
    rwa [show o + xs.length + (i - xs.length) = o + i from by omega] at this

theorem ImmAt.take {a : Option (Nat × Nat)} {xs : List Value} (n : Nat) (h : ImmAt Γ a xs) : ImmAt Γ a (xs.take n) := by
  cases a with
  | none => simp only [ImmAt] at *; simp [h]
  | some p => intro i x hi; rw [List.getElem?_take] at hi; split at hi <;> first | exact h i x hi | cases hi

theorem ImmAt.drop {b o : Nat} {xs : List Value} (n : Nat) (h : ImmAt Γ (some (b, o)) xs) : ImmAt Γ (some (b, o + n)) (xs.drop n) := by
  intro i x hi; rw [List.getElem?_drop] at hi
  have := h _ _ hi
  rwa [show o + (n + i) = o + n + i from by omega] at this

end

-- the store
theorem St.set_same (σ : St) (id : Nat) (o : Option AObj) : σ.set id o id = o := by simp [St.set]
theorem St.set_ne (σ : St) {id j : Nat} (o : Option AObj) (h : j ≠ id) : σ.set id o j = σ j := by simp [St.set, h]
theorem St.set_set (σ : St) (id : Nat) (o o' : Option AObj) : (σ.set id o).set id o' = σ.set id o' := by funext j; simp only [St.set]; split <;> rfl
theorem St.set_comm (σ : St) {i j : Nat} (o o' : Option AObj) (h : i ≠ j) : (σ.set i o).set j o' = (σ.set j o').set i o := by
  funext k; simp only [St.set]; split <;> split <;> first | rfl | (subst_vars; exact absurd rfl h)
end Go.Am
