/-
  Plain Lean: what is valid; the program's and the reference's tests are one.
-/
import Derived.Test.YtbmlendfheakeaaGreatPlD
set_option linter.unusedVariables false
set_option linter.unusedSimpArgs false
set_option linter.unnecessarySimpa false
namespace Go.Am
open Go.Proofs
set_option linter.unusedVariables false

def goodByte (b : UInt8) : Bool := !decide ((b.toNat : Int) < 97) && !decide (122 < (b.toNat : Int))
def isWord (s : ByteArray) : Bool := s.data.toList.all goodByte && (decide (1 ≤ (s.size : Int)) && decide ((s.size : Int) ≤ 6))

theorem within_eq (f : Nat) (a b c : Int) : M_i_within f a b c = some (decide (b ≤ a) && decide (a ≤ c)) := by
  unfold M_i_within jn
  cases decide (b ≤ a) <;> rfl

theorem byteAt {s : ByteArray} {i : Nat} (h : i < s.size) : ∃ x, s.data[((i : Nat) : Int).toNat]? = some x ∧ x ∈ s.data.toList := by
  have h' : i < s.data.size := h
  exact ⟨s.data[i], by simp [h'], by simp⟩

theorem word_i (s : ByteArray) (hs : s.size ≤ 1000) : TT (fun f _ => M_i_isLetters f s) (· = isWord s) := by
  unfold M_i_isLetters jn
  refine TT.loop (L := fun f n => L_i_isLetters_1 s _ n 0) (TT.for (L := fun f n i => L_i_isLetters_1 s _ n i) s.size (by omega) (fun i => ∀ j, j < i → ∀ x, s.data[j]? = some x → goodByte x = true) (fun i hi hI k => ?_) (fun hI => ?_) (fun j hj => by omega))
  · simp only [L_i_isLetters_1, jn]
    obtain ⟨x, hx, hm⟩ := byteAt hi
    have hx' : s.data[i]? = some x := by simpa using hx
    have bad : goodByte x = false → TT (fun (_ _ : Nat) => some false) (· = isWord s) := fun hb => TT.pure (by
      have : s.data.toList.all goodByte = false := List.all_eq_false.2 ⟨x, hm, by simp [hb]⟩
      simp [isWord, this])
    refine TT.ct (by simp; omega) (TT.guard (by simp) (TT.opt hx (TT.cond (fun h1 => TT.ct rfl (bad (by simp [goodByte, h1]))) fun h1 => TT.opt hx (TT.cond (fun h2 => bad (by simp [goodByte, h2])) fun h2 => ?_))))
    rw [wrapS hi (by omega)]
    refine k fun j hj y hy => ?_
    by_cases hji : j = i
    · subst hji; rw [hx'] at hy; cases hy; simp [goodByte, h1, h2]
    · exact hI j (by omega) y hy
  · simp only [L_i_isLetters_1, jn]
    refine TT.cf (by simp) (TT.bind (TT.any (fun f _ => within_eq f _ _ _) rfl) fun z hz => TT.pure ?_)
    subst hz
    have : s.data.toList.all goodByte = true := List.all_eq_true.2 fun x hx => by
      obtain ⟨j, hj⟩ := List.getElem?_of_mem hx
      have hlt := (List.getElem?_eq_some_iff.1 hj).1
      exact hI j (by simpa using hlt) x (by simpa using hj)
    simp [isWord, this]

theorem word_s (s : ByteArray) (hs : s.size ≤ 1000) : TT (fun f _ => M_s_l1Word f s) (· = isWord s) := by
  unfold M_s_l1Word jn
  refine TT.loop (L := fun f n => L_s_l1Word_1 s _ n 0) (TT.for (L := fun f n i => L_s_l1Word_1 s _ n i) s.size (by omega) (fun i => ∀ j, j < i → ∀ x, s.data[j]? = some x → goodByte x = true) (fun i hi hI k => ?_) (fun hI => ?_) (fun j hj => by omega))
  · simp only [L_s_l1Word_1, jn]
    obtain ⟨x, hx, hm⟩ := byteAt hi
    have hx' : s.data[i]? = some x := by simpa using hx
    have bad : goodByte x = false → TT (fun (_ _ : Nat) => some false) (· = isWord s) := fun hb => TT.pure (by
      have : s.data.toList.all goodByte = false := List.all_eq_false.2 ⟨x, hm, by simp [hb]⟩
      simp [isWord, this])
    refine TT.ct (by simp; omega) (TT.guard (by simp) (TT.opt hx (TT.cond (fun h1 => TT.ct rfl (bad (by simp [goodByte, h1]))) fun h1 => TT.opt hx (TT.cond (fun h2 => bad (by simp [goodByte, h2])) fun h2 => ?_))))
    rw [wrapS hi (by omega)]
    refine k fun j hj y hy => ?_
    by_cases hji : j = i
    · subst hji; rw [hx'] at hy; cases hy; simp [goodByte, h1, h2]
    · exact hI j (by omega) y hy
  · simp only [L_s_l1Word_1, jn]
    have : s.data.toList.all goodByte = true := List.all_eq_true.2 fun x hx => by
      obtain ⟨j, hj⟩ := List.getElem?_of_mem hx
      have hlt := (List.getElem?_eq_some_iff.1 hj).1
      exact hI j (by simpa using hlt) x (by simpa using hj)
    refine TT.cf (by simp) (TT.cond (fun h => TT.pure ?_) fun h => TT.pure ?_) <;> simp [isWord, this, h]

def signs : List ByteArray := match M_s_l1Signs 0 with | some l => l | none => []
theorem signs_s (f : Nat) : M_s_l1Signs f = some signs := rfl
theorem signs_i (f : Nat) : M_i_symbols f = some signs := rfl
def hasS (l : List ByteArray) (s : ByteArray) : Bool := l.any fun x => decide (x = s)
def nameOk (s : ByteArray) : Bool := isWord s || hasS signs s

theorem listAt {α : Type} {l : List α} {i : Nat} (h : i < l.length) : ∃ x, l[((i : Nat) : Int).toNat]? = some x ∧ l[i]? = some x ∧ x ∈ l := ⟨l[i], by simp [h], by simp [h], List.getElem_mem h⟩

theorem has_s (l : List ByteArray) (hl : l.length ≤ 1000) (s : ByteArray) : TT (fun f _ => M_s_l1Has f l s) (· = hasS l s) := by
  unfold M_s_l1Has jn
  refine TT.loop (L := fun f n => L_s_l1Has_1 l s _ n 0) (TT.for (L := fun f n i => L_s_l1Has_1 l s _ n i) l.length (by omega) (fun i => ∀ j, j < i → ∀ x, l[j]? = some x → x ≠ s) (fun i hi hI k => ?_) (fun hI => ?_) (fun j hj => by omega))
  · simp only [L_s_l1Has_1]
    obtain ⟨x, hx, hx', hm⟩ := listAt hi
    refine TT.ct (by simp; omega) (TT.guard (by simp) (TT.opt hx (TT.cond (fun h => TT.pure ?_) fun h => ?_)))
    · exact (List.any_eq_true.2 ⟨x, hm, h⟩).symm
    · rw [wrapS hi (by omega)]
      refine k fun j hj y hy => ?_
      by_cases hji : j = i
      · subst hji; rw [hx'] at hy; cases hy; simpa using h
      · exact hI j (by omega) y hy
  · simp only [L_s_l1Has_1]
    refine TT.cf (by simp) (TT.pure ?_)
    exact (List.any_eq_false.2 fun x hx => by
      obtain ⟨j, hj⟩ := List.getElem?_of_mem hx
      simpa using hI j (List.getElem?_eq_some_iff.1 hj).1 x hj).symm

theorem has_i (l : List ByteArray) (hl : l.length ≤ 1000) (s : ByteArray) : TT (fun f _ => M_Contains_string f l s) (· = hasS l s) := by
  unfold M_Contains_string
  refine TT.bind (P := fun r => decide (0 ≤ r) = hasS l s) ?_ fun r hr => TT.pure hr
  unfold M_Index_string jn
  refine TT.loop (L := fun f n => L_Index_string_1 l s _ n 0) (TT.for (L := fun f n i => L_Index_string_1 l s _ n i) l.length (by omega) (fun i => ∀ j, j < i → ∀ x, l[j]? = some x → x ≠ s) (fun i hi hI k => ?_) (fun hI => ?_) (fun j hj => by omega))
  · simp only [L_Index_string_1]
    obtain ⟨x, hx, hx', hm⟩ := listAt hi
    refine TT.ct (by simp; omega) (TT.guard (by simp) (TT.opt hx (TT.cond (fun h => TT.pure ?_) fun h => ?_)))
    · have e : s = x := by simpa using h
      have : hasS l s = true := List.any_eq_true.2 ⟨x, hm, by simp [e]⟩
      rw [this]; simp
    · rw [wrapS hi (by omega)]
      refine k fun j hj y hy => ?_
      by_cases hji : j = i
      · subst hji; rw [hx'] at hy; cases hy; simp at h; exact fun e => h e.symm
      · exact hI j (by omega) y hy
  · simp only [L_Index_string_1]
    refine TT.cf (by simp) (TT.pure ?_)
    have : hasS l s = false := List.any_eq_false.2 fun x hx => by
      obtain ⟨j, hj⟩ := List.getElem?_of_mem hx
      simpa using hI j (List.getElem?_eq_some_iff.1 hj).1 x hj
    rw [this]; rfl

theorem name_s (s : ByteArray) (hs : s.size ≤ 1000) : TT (fun f _ => M_s_NameValid f s) (· = nameOk s) := by
  unfold M_s_NameValid jn
  refine TT.bind (word_s s hs) fun z hz => ?_
  subst hz
  refine TT.cond (fun h => TT.pure (by simp [nameOk, h])) fun h => TT.bind (TT.any (fun f _ => signs_s f) rfl) fun z hz => ?_
  subst hz
  exact TT.bind (has_s signs (by decide) s) fun z hz => TT.pure (by simp [nameOk, h, hz])
theorem name_i (s : ByteArray) (hs : s.size ≤ 1000) : TT (fun f _ => M_i_NameValid f s) (· = nameOk s) := by
  unfold M_i_NameValid jn
  refine TT.bind (word_i s hs) fun z hz => ?_
  subst hz
  refine TT.cond (fun h => TT.pure (by simp [nameOk, h])) fun h => TT.bind (TT.any (fun f _ => signs_i f) rfl) fun z hz => ?_
  subst hz
  exact TT.bind (has_i signs (by decide) s) fun z hz => TT.pure (by simp [nameOk, h, hz])

/-! ### Terms -/

def nodeOk (t : STerm) : Bool :=
  if t.kind = 1 then decide (0 ≤ t.n) && decide (t.n ≤ 25) && decide (t.name = ⟨#[]⟩) && ((t.kids.length : Int) == 0)
  else if t.kind = 2 then decide (-999 ≤ t.n) && decide (t.n ≤ 999) && decide (t.name = ⟨#[]⟩) && ((t.kids.length : Int) == 0)
  else if t.kind = 3 then (t.n == 0) && nameOk t.name && decide ((t.kids.length : Int) ≤ 4)
  else false

mutual
def nodes : STerm → Nat
  | ⟨_, _, _, ks⟩ => 1 + nodesL ks
def nodesL : List STerm → Nat
  | [] => 0
  | t :: ts => nodes t + nodesL ts
end
mutual
def shape : STerm → Nat → Bool
  | ⟨k, n, s, ks⟩, d => decide (1 ≤ d) && nodeOk ⟨k, n, s, ks⟩ && shapes ks (d - 1)
def shapes : List STerm → Nat → Bool
  | [], _ => true
  | t :: ts, d => shape t d && shapes ts d
end
theorem nodes_eq (t : STerm) : nodes t = 1 + nodesL t.kids := by cases t; simp only [nodes]
theorem shape_eq (t : STerm) (d : Nat) : shape t d = (decide (1 ≤ d) && nodeOk t && shapes t.kids (d - 1)) := by cases t; simp only [shape]
theorem shapes_iff (d : Nat) : ∀ l, shapes l d = true ↔ ∀ t ∈ l, shape t d = true
  | [] => by simp [shapes]
  | t :: ts => by simp [shapes, shapes_iff d ts]
theorem nodesL_append : ∀ l m : List STerm, nodesL (l ++ m) = nodesL l + nodesL m
  | [], _ => by simp [nodesL]
  | t :: ts, m => by simp only [List.cons_append, nodesL, nodesL_append ts m]; omega
theorem nodesL_take {l : List STerm} {i : Nat} {x : STerm} (h : l[i]? = some x) : nodesL (l.take (i + 1)) = nodesL (l.take i) + nodes x := by
  rw [List.take_add_one, h, nodesL_append]; simp [nodesL]
theorem nodesL_le (l : List STerm) (i : Nat) : nodesL (l.take i) ≤ nodesL l := by
  have := nodesL_append (l.take i) (l.drop i)
  rw [List.take_append_drop] at this; omega

def termOk (t : STerm) : Bool := shape t 30 && decide (nodes t ≤ 120)

theorem own_s (t : STerm) (hs : t.name.size ≤ 1000) : TT (fun f _ => M_s_l1Own f t) (· = nodeOk t) := by
  unfold M_s_l1Own jn
  refine TT.cond (fun h1 => ?_) fun h1 => TT.cond (fun h2 => ?_) fun h2 => TT.cond (fun h3 => ?_) fun h3 => ?_
  · have e : t.kind = 1 := by simpa using h1
    refine TT.cond (fun a => TT.cond (fun b => TT.cond (fun c => TT.pure ?_) fun c => TT.pure ?_) fun b => TT.pure ?_) fun a => TT.pure ?_ <;> simp [nodeOk, e, *]
  · have e : t.kind = 2 := by simpa using h2
    refine TT.cond (fun a => TT.cond (fun b => TT.cond (fun c => TT.pure ?_) fun c => TT.pure ?_) fun b => TT.pure ?_) fun a => TT.pure ?_ <;> simp [nodeOk, e, *]
  · have e : t.kind = 3 := by simpa using h3
    refine TT.cond (fun a => TT.bind (name_s _ hs) fun z hz => TT.cond (fun b => TT.pure ?_) fun b => TT.pure ?_) fun a => TT.pure ?_
    · subst hz; simp [nodeOk, e, a, b]
    · subst hz; simp [nodeOk, e, a, b]
    · simp [nodeOk, e, a]
  · refine TT.pure ?_
    have e1 : ¬ t.kind = 1 := by simpa using h1
    have e2 : ¬ t.kind = 2 := by simpa using h2
    have e3 : ¬ t.kind = 3 := by simpa using h3
    simp [nodeOk, e1, e2, e3]

theorem shape_s : ∀ t : STerm, smT t = true → ∀ d : Int, d ≤ 1000 → TT (fun f _ => M_s_l1Shape f t d) (· = shape t d.toNat) := by
  refine STerm.ind fun t ih ht d hd => TT.fsucc ?_
  obtain ⟨h1, h2, h3⟩ := (smT_iff t).1 ht
  show TT (fun f _ => B_s_l1Shape f (M_s_l1Shape f) t d) _
  unfold B_s_l1Shape jn
  refine TT.cond (fun hc => TT.ct rfl (TT.pure ?_)) fun hc => TT.bind (own_s t h1) fun z hz => ?_
  · have : d < 1 := by simpa using hc
    have e : d.toNat = 0 := by omega
    rw [e, shape_eq]; simp
  · subst hz
    have hd1 : 1 ≤ d := by simp at hc; omega
    refine TT.cond (fun hn => TT.pure ?_) fun hn => ?_
    · have : nodeOk t = false := by simpa using hn
      rw [shape_eq, this]; simp
    · have hno : nodeOk t = true := by simpa using hn
      have hw : IntKind.wrap .i64 (d - 1) = d - 1 := wrap_id (by omega) (by omega)
      have he : shape t d.toNat = shapes t.kids (d - 1).toNat := by
        rw [shape_eq, hno]
        have e1 : d.toNat - 1 = (d - 1).toNat := by omega
        have e2 : 1 ≤ d.toNat := by omega
        rw [e1]
        simp [e2]
      rw [he]
      refine TT.loop (L := fun f n => L_s_l1Shape_1 (M_s_l1Shape f) t d _ n 0) (TT.for (L := fun f n i => L_s_l1Shape_1 (M_s_l1Shape f) t d _ n i) t.kids.length (by omega) (fun i => ∀ j, j < i → ∀ x, t.kids[j]? = some x → shape x (d - 1).toNat = true) (fun i hi hI k => ?_) (fun hI => ?_) (fun j hj => by omega))
      · simp only [L_s_l1Shape_1]
        obtain ⟨x, hx, hx', hm⟩ := listAt hi
        refine TT.ct (by simp; omega) (TT.guard (by simp) (TT.opt hx (TT.bind (ih x hm (h3 x hm) _ (by rw [hw]; omega)) fun z hz => ?_)))
        rw [hw] at hz
        subst hz
        refine TT.cond (fun hb => TT.pure ?_) fun hb => ?_
        · have hb' : shape x (d - 1).toNat = false := by simpa using hb
          refine Eq.symm (Bool.eq_false_iff.2 fun hh => ?_)
          have := (shapes_iff _ _).1 hh x hm
          rw [this] at hb'; cases hb'
        · rw [wrapS hi (by omega)]
          refine k fun j hj y hy => ?_
          by_cases hji : j = i
          · subst hji; rw [hx'] at hy; cases hy; simpa using hb
          · exact hI j (by omega) y hy
      · simp only [L_s_l1Shape_1]
        refine TT.cf (by simp) (TT.pure ?_)
        exact ((shapes_iff _ _).2 fun x hx => by
          obtain ⟨j, hj⟩ := List.getElem?_of_mem hx
          exact hI j (List.getElem?_eq_some_iff.1 hj).1 x hj).symm

theorem count_s : ∀ t : STerm, smT t = true → ∀ m : Nat, m ≤ 1000 → TT (fun f _ => M_s_l1Count f t (m : Int)) (· = ((min (nodes t) (m + 1) : Nat) : Int)) := by
  refine STerm.ind fun t ih ht m hm => TT.fsucc ?_
  obtain ⟨h1, h2, h3⟩ := (smT_iff t).1 ht
  show TT (fun f _ => B_s_l1Count f (M_s_l1Count f) t (m : Int)) _
  unfold B_s_l1Count jn
  have fin : ∀ i, i ≤ t.kids.length → (i = t.kids.length ∨ m < min (1 + nodesL (t.kids.take i)) (m + 1)) → min (1 + nodesL (t.kids.take i)) (m + 1) = min (nodes t) (m + 1) := fun i hi hc => by
    rw [nodes_eq]
    rcases hc with rfl | hc
    · rw [List.take_length]
    · have := nodesL_le t.kids i
      omega
  refine TT.loop (L := fun f n => L_s_l1Count_1 (M_s_l1Count f) t (m : Int) _ n 1 0) (TT.forS (L := fun f n i s => L_s_l1Count_1 (M_s_l1Count f) t (m : Int) _ n s i) t.kids.length (by omega) (fun i s => s = ((min (1 + nodesL (t.kids.take i)) (m + 1) : Nat) : Int)) (fun i s hi hI k => ?_) (fun s hI => ?_) 1 (by simp [nodesL]))
  · simp only [L_s_l1Count_1, jn]
    obtain ⟨x, hx, hx', hxm⟩ := listAt hi
    refine TT.ct (by simp; omega) (TT.cond (fun hc => ?_) fun hc => TT.pure ?_)
    · have hle : s ≤ (m : Int) := by simpa using hc
      have hs : s = ((1 + nodesL (t.kids.take i) : Nat) : Int) := by omega
      have hw : IntKind.wrap .i64 ((m : Int) - s) = ((m - (1 + nodesL (t.kids.take i)) : Nat) : Int) := by rw [wrap_id (by omega) (by omega)]; omega
      rw [hw]
      refine TT.guard (by simp) (TT.opt hx (TT.bind (ih x hxm (h3 x hxm) _ (by omega)) fun z hz => ?_))
      rw [wrapS hi (by omega), wrap_id (by omega) (by omega)]
      refine k _ ?_
      rw [nodesL_take hx', hz, hs]
      omega
    · have hgt : (m : Int) < s := by simpa using hc
      rw [hI, fin i (by omega) (.inr (by omega))]
  · simp only [L_s_l1Count_1, jn]
    exact TT.cf (by simp) (TT.cf rfl (TT.pure (by rw [hI, fin _ (Nat.le_refl _) (.inl rfl)])))

theorem term_s (t : STerm) (ht : smT t = true) : TT (fun f _ => M_s_TermValid f t) (· = termOk t) := by
  unfold M_s_TermValid jn
  refine TT.bind (shape_s t ht 30 (by omega)) fun z hz => ?_
  subst hz
  refine TT.cond (fun h => TT.bind (count_s t ht 120 (by omega)) fun z hz => TT.pure ?_) fun h => TT.pure ?_
  · subst hz
    have h' : shape t 30 = true := h
    simp only [termOk, h', Bool.true_and, decide_eq_decide]
    omega
  · have h' : shape t 30 = false := h
    simp [termOk, h']

/-- What a scan of the program comes to. -/
def ScanP (t : STerm) (d c : Int) (r : Bool × Int) : Prop := r.1 = (shape t (31 - d).toNat && decide (c + nodes t ≤ 120)) ∧ 0 ≤ r.2 ∧ r.2 ≤ 121 ∧ (r.1 = true → r.2 = c + nodes t)

theorem scan_i : ∀ t : STerm, smT t = true → ∀ d c : Int, 1 ≤ d → d ≤ 1000 → 0 ≤ c → c ≤ 120 → TT (fun f _ => M_i_scan f t d c) (ScanP t d c) := by
  refine STerm.ind fun t ih ht d c hd0 hd1 hc0 hc1 => TT.fsucc ?_
  obtain ⟨h1, h2, h3⟩ := (smT_iff t).1 ht
  show TT (fun f _ => B_i_scan f (M_i_scan f) (M_i_scan_1 f) (M_ContainsFunc_Term__i_scan_1 f) (M_IndexFunc_Term__i_scan_1 f) t d c) _
  unfold B_i_scan jn
  have hw : IntKind.wrap .i64 (c + 1) = c + 1 := wrap_id (by omega) (by omega)
  rw [hw]
  have hn1 : 1 ≤ nodes t := by rw [nodes_eq]; omega
  have no : (c = 120 ∨ 30 < d ∨ nodeOk t = false) → ScanP t d c (false, c + 1) := fun h => by
    refine ⟨?_, by simp only; omega, by simp only; omega, fun hh => by cases hh⟩
    refine Eq.symm (Bool.eq_false_iff.2 fun hh => ?_)
    simp only [Bool.and_eq_true, decide_eq_true_eq, shape_eq] at hh
    obtain ⟨⟨⟨a1, a2⟩, a3⟩, a4⟩ := hh
    rcases h with h | h | h
    · omega
    · omega
    · rw [a2] at h; cases h
  have leaf : t.kids = [] → 31 - d ≥ 1 → c + 1 ≤ 120 → ∀ b, b = nodeOk t → ScanP t d c (b, c + 1) := fun hk hdd hcc b hb => by
    have hn : nodes t = 1 := by rw [nodes_eq, hk]; rfl
    refine ⟨?_, by simp only; omega, by simp only; omega, fun _ => by simp only; omega⟩
    have e1 : 1 ≤ (31 - d).toNat := by omega
    have e2 : c + (nodes t : Int) ≤ 120 := by omega
    rw [shape_eq, hk]
    simp [hb, e1, e2, shapes]
  refine TT.cond (fun ha => TT.ct rfl (TT.pure (no (.inl (by simp at ha; omega))))) fun ha => TT.cond (fun hb => TT.pure (no (.inr (.inl (by simpa using hb))))) fun hb => ?_
  have ha' : c + 1 ≤ 120 := by simp at ha; omega
  have hb' : d ≤ 30 := by simp at hb; omega
  refine TT.cond (fun k1 => ?_) fun k1 => TT.cond (fun k2 => ?_) fun k2 => TT.cond (fun k3 => ?_) fun k3 => ?_
  · have e : t.kind = 1 := by simpa using k1
    refine TT.bind (TT.any (fun f _ => within_eq f _ _ _) rfl) fun z hz => ?_
    subst hz
    refine TT.cond (fun w => TT.cond (fun nm => ?_) fun nm => TT.pure (no (.inr (.inr ?_)))) fun w => TT.pure (no (.inr (.inr ?_)))
    · cases hk : t.kids with
      | nil => exact TT.pure (leaf hk (by omega) ha' _ (by simp only [Bool.and_eq_true] at w; simp [nodeOk, e, w.1, w.2, nm, hk]))
      | cons x xs =>
        have e0 : ((((x :: xs).length : Nat) : Int) == 0) = false := by simp; omega
        rw [e0]
        exact TT.pure (no (.inr (.inr (by simp only [nodeOk, e, hk, if_true, e0, Bool.and_false]))))
    · simp [nodeOk, e, nm]
    · simp only [nodeOk, e, if_true, w, Bool.false_and]
  · have e : t.kind = 2 := by simpa using k2
    refine TT.bind (TT.any (fun f _ => within_eq f _ _ _) rfl) fun z hz => ?_
    subst hz
    refine TT.cond (fun w => TT.cond (fun nm => ?_) fun nm => TT.pure (no (.inr (.inr ?_)))) fun w => TT.pure (no (.inr (.inr ?_)))
    · cases hk : t.kids with
      | nil => exact TT.pure (leaf hk (by omega) ha' _ (by simp only [Bool.and_eq_true] at w; simp [nodeOk, e, w.1, w.2, nm, hk]))
      | cons x xs =>
        have e0 : ((((x :: xs).length : Nat) : Int) == 0) = false := by simp; omega
        rw [e0]
        exact TT.pure (no (.inr (.inr (by simp [nodeOk, e, hk]; intros; omega))))
    · simp [nodeOk, e, nm]
    · have w' : (decide ((-999 : Int) ≤ t.n) && decide (t.n ≤ 999)) = false := w
      simp only [nodeOk, e, if_true, w', Bool.false_and]
      rfl
  · have e : t.kind = 3 := by simpa using k3
    refine TT.cond (fun w => TT.ct rfl (TT.pure (no (.inr (.inr ?_))))) fun w => TT.bind (name_i _ h1) fun z hz => ?_
    · have : ¬ t.n = 0 := by simpa using w
      simp [nodeOk, e, this]
    · subst hz
      have hn0 : t.n = 0 := by simpa using w
      refine TT.cond (fun w2 => TT.ct rfl (TT.pure (no (.inr (.inr ?_))))) fun w2 => TT.cond (fun w3 => TT.pure (no (.inr (.inr ?_)))) fun w3 => ?_
      · have : nameOk t.name = false := by simpa using w2
        simp [nodeOk, e, this]
      · have : ¬ ((t.kids.length : Int) ≤ 4) := by simp at w3; omega
        simp [nodeOk, e, this]
      · have hnm : nameOk t.name = true := by simpa using w2
        have hk4 : (t.kids.length : Int) ≤ 4 := by simp at w3; omega
        have hno : nodeOk t = true := by simp [nodeOk, e, hn0, hnm, hk4]
        have hsh : shape t (31 - d).toNat = shapes t.kids (30 - d).toNat := by
          rw [shape_eq, hno]
          have e1 : (31 - d).toNat - 1 = (30 - d).toNat := by omega
          have e2 : 1 ≤ (31 - d).toNat := by omega
          rw [e1]
          simp [e2]
        refine TT.bind (P := fun r => (!r.1) = (shapes t.kids (30 - d).toNat && decide (c + 1 + nodesL t.kids ≤ 120)) ∧ 0 ≤ r.2 ∧ r.2 ≤ 121 ∧ ((!r.1) = true → r.2 = c + 1 + nodesL t.kids)) (TT.fsucc ?_) fun r ⟨a1, a2, a3, a4⟩ => TT.pure ⟨?_, a2, a3, fun hh => ?_⟩
        · show TT (fun f _ => B_ContainsFunc_Term__i_scan_1 f (M_i_scan f) (M_i_scan_1 f) (M_ContainsFunc_Term__i_scan_1 f) (M_IndexFunc_Term__i_scan_1 f) t.kids d (c + 1)) _
          unfold B_ContainsFunc_Term__i_scan_1
          refine TT.bind (P := fun r => (!decide (0 ≤ r.1)) = (shapes t.kids (30 - d).toNat && decide (c + 1 + nodesL t.kids ≤ 120)) ∧ 0 ≤ r.2 ∧ r.2 ≤ 121 ∧ ((!decide (0 ≤ r.1)) = true → r.2 = c + 1 + nodesL t.kids)) (TT.fsucc ?_) fun r hr => TT.pure hr
          show TT (fun f _ => B_IndexFunc_Term__i_scan_1 f (M_i_scan f) (M_i_scan_1 f) (M_ContainsFunc_Term__i_scan_1 f) (M_IndexFunc_Term__i_scan_1 f) t.kids d (c + 1)) _
          unfold B_IndexFunc_Term__i_scan_1 jn
          refine TT.loop (L := fun f n => L_IndexFunc_Term__i_scan_1_1 (M_i_scan_1 f) t.kids d _ n 0 (c + 1)) (TT.forS (L := fun f n i s => L_IndexFunc_Term__i_scan_1_1 (M_i_scan_1 f) t.kids d _ n i s) t.kids.length (by omega)
            (fun i s => (∀ j, j < i → ∀ x, t.kids[j]? = some x → shape x (30 - d).toNat = true) ∧ s = c + 1 + nodesL (t.kids.take i) ∧ s ≤ 120) (fun i s hi hI k => ?_) (fun s hI => ?_) (c + 1) ⟨fun j hj => by omega, by simp [nodesL], ha'⟩)
          · obtain ⟨i1, i2, i3⟩ := hI
            simp only [L_IndexFunc_Term__i_scan_1_1]
            obtain ⟨x, hx, hx', hxm⟩ := listAt hi
            have hle := nodesL_le t.kids (i + 1)
            rw [nodesL_take hx'] at hle
            refine TT.ct (by simp; omega) (TT.guard (by simp) (TT.opt hx (TT.bind (P := fun r => (!r.1) = (shape x (30 - d).toNat && decide (s + nodes x ≤ 120)) ∧ 0 ≤ r.2 ∧ r.2 ≤ 121 ∧ ((!r.1) = true → r.2 = s + nodes x)) (TT.fsucc ?_) fun r ⟨b1, b2, b3, b4⟩ => ?_)))
            · show TT (fun f _ => B_i_scan_1 f (M_i_scan f) (M_i_scan_1 f) (M_ContainsFunc_Term__i_scan_1 f) (M_IndexFunc_Term__i_scan_1 f) x d s) _
              unfold B_i_scan_1
              have hwd : IntKind.wrap .i64 (d + 1) = d + 1 := wrap_id (by omega) (by omega)
              rw [hwd]
              refine TT.bind (ih x hxm (h3 x hxm) (d + 1) s (by omega) (by omega) (by omega) i3) fun r ⟨d1, d2, d3, d4⟩ => TT.pure ⟨?_, d2, d3, fun hh => d4 (by simpa using hh)⟩
              have e1 : (31 - (d + 1)).toNat = (30 - d).toNat := by omega
              rw [e1] at d1
              simp [d1]
            · refine TT.cond (fun hr => TT.pure ⟨?_, b2, b3, fun hh => ?_⟩) fun hr => ?_
              · rw [hr] at b1
                have hi0 : decide (0 ≤ (i : Int)) = true := by simp
                simp only [hi0, Bool.not_true] at b1 ⊢
                refine Eq.symm (Bool.eq_false_iff.2 fun hh => ?_)
                simp only [Bool.and_eq_true, decide_eq_true_eq] at hh
                have hs1 := (shapes_iff _ _).1 hh.1 x hxm
                rw [hs1] at b1
                have : ¬ (s + (nodes x : Int) ≤ 120) := by simpa using b1.symm
                omega
              · simp at hh
              · rw [hr] at b1
                have b1' : shape x (30 - d).toNat = true ∧ s + (nodes x : Int) ≤ 120 := by simpa using b1.symm
                have b4' := b4 (by rw [hr]; rfl)
                rw [wrapS hi (by omega)]
                refine k r.2 ⟨fun j hj y hy => ?_, ?_, by omega⟩
                · by_cases hji : j = i
                  · subst hji; rw [hx'] at hy; cases hy; exact b1'.1
                  · exact i1 j (by omega) y hy
                · rw [nodesL_take hx', b4', i2]; omega
          · obtain ⟨i1, i2, i3⟩ := hI
            simp only [L_IndexFunc_Term__i_scan_1_1]
            rw [List.take_length] at i2
            refine TT.cf (by simp) (TT.pure ⟨?_, by simp only; omega, by simp only; omega, fun _ => i2⟩)
            have hall : shapes t.kids (30 - d).toNat = true := (shapes_iff _ _).2 fun x hx => by
              obtain ⟨j, hj⟩ := List.getElem?_of_mem hx
              exact i1 j (List.getElem?_eq_some_iff.1 hj).1 x hj
            have e3 : c + 1 + (nodesL t.kids : Int) ≤ 120 := by omega
            simp [hall, e3]
        · rw [a1, hsh, nodes_eq]
          have e9 : decide (c + 1 + (nodesL t.kids : Int) ≤ 120) = decide (c + ((1 + nodesL t.kids : Nat) : Int) ≤ 120) := by rw [decide_eq_decide]; omega
          rw [e9]
        · rw [a4 hh, nodes_eq]; omega
  · have e1 : ¬ t.kind = 1 := by simpa using k1
    have e2 : ¬ t.kind = 2 := by simpa using k2
    have e3 : ¬ t.kind = 3 := by simpa using k3
    exact TT.pure (no (.inr (.inr (by simp [nodeOk, e1, e2, e3]))))

theorem term_i (t : STerm) (ht : smT t = true) : TT (fun f _ => M_i_TermValid f t) (· = termOk t) := by
  unfold M_i_TermValid
  refine TT.bind (scan_i t ht 1 0 (by omega) (by omega) (by omega) (by omega)) fun r ⟨h1, _, _, _⟩ => TT.pure ?_
  rw [h1]
  simp only [termOk]
  have : (31 - 1 : Int).toNat = 30 := rfl
  rw [this]
  have e9 : decide ((0 : Int) + (nodes t : Int) ≤ 120) = decide (nodes t ≤ 120) := by rw [decide_eq_decide]; omega
  rw [e9]

end Go.Am
