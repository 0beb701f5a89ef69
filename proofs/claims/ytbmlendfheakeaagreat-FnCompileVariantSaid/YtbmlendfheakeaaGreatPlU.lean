/-
  Plain Lean: the reference's code of a clause, its body.
-/
import Derived.Test.YtbmlendfheakeaaGreatPlS
set_option linter.unusedVariables false
set_option linter.unusedSimpArgs false
set_option linter.unnecessarySimpa false
namespace Go.Am
open Go.Proofs
set_option linter.unusedVariables false

theorem one_s {m : Sl8Maker} (hm : WfS m) {k : Nat} (hb : Sb k (aS m)) (hk : k + 1 ≤ 1000000) {ks : List STerm} {i : Nat} {y : STerm} (hy : ks[i]? = some y) (hno : nodeOk y = true) (h3 : ¬ y.kind = 3) {a b : Nat} (ha : a = 1) (hbb : b = i) :
    TT (fun f _ => M_s_l8Args f m (List.take a (List.drop b ks))) (fun r => WfS r.1 ∧ aS r.1 = arg1 (aS m) y) := by
  subst ha; subst hbb
  have e : List.take 1 (List.drop b ks) = [y] := by
    obtain ⟨hlt, he⟩ := List.getElem?_eq_some_iff.1 hy
    rw [List.drop_eq_getElem_cons hlt, he]; rfl
  rw [e]
  refine (args_s [y] (by simp) (fun t ht => by rw [List.mem_singleton.1 ht]; exact hno) hm hb (by simp; omega)).mono fun r hr => ⟨hr.1, ?_⟩
  have h := hr.2
  simp only [argHs, argH, if_neg h3] at h
  exact congrArg Prod.fst h

theorem bldK_kind : ∀ (l : List STerm) (s : CS) (i : Nat) (y : STerm) (o : Option Int), l[i]? = some y → (bldK l s).2[i]? = some o → (y.kind = 3 → ∃ v, o = some v) ∧ (¬ y.kind = 3 → o = none) := by
  intro l
  induction l with
  | nil => intro s i y o h; simp at h
  | cons t ts ih2 =>
    intro s i y o h h'
    simp only [bldK] at h'
    cases i with
    | zero =>
      simp only [List.getElem?_cons_zero, Option.some.injEq] at h
      subst h
      split at h'
      · rename_i e; simp only [List.getElem?_cons_zero, Option.some.injEq] at h'; exact ⟨fun _ => ⟨_, h'.symm⟩, fun hh => absurd e hh⟩
      · rename_i e; simp only [List.getElem?_cons_zero, Option.some.injEq] at h'; exact ⟨fun hh => absurd hh e, fun _ => h'.symm⟩
    | succ i =>
      simp only [List.getElem?_cons_succ] at h
      split at h' <;> (simp only [List.getElem?_cons_succ] at h'; exact ih2 _ i y o h h')

/-- What the row of built slots says. -/
def enc : Option Int → Int
  | some v => v
  | none => -1
def Nn : Option Int → Prop
  | some v => 0 ≤ v
  | none => True

theorem build_s : ∀ t : STerm, nodes t ≤ 1000 → (∃ d, shape t d = true) → ∀ {m : Sl8Maker} {k : Nat}, WfS m → Sb k (aS m) → k + 2 * nodes t ≤ 100000 →
    TT (fun f _ => M_s_l8Build f m t) (fun r => WfS r.1 ∧ (aS r.1, r.2) = bld t (aS m)) := by
  refine STerm.ind fun t ih hn hd m k hm hb hk => TT.fsucc ?_
  obtain ⟨d, hd⟩ := hd
  have hkl := len_nodes t.kids
  have hne := nodes_eq t
  have hsh := shape_kids hd
  show TT (fun f _ => B_s_l8Build f (M_s_l8Build f) m t) _
  unfold B_s_l8Build jn
  refine TT.loop (L := fun f n => L_s_l8Build_2 (M_s_l8Build f) t _ n [] 0 m.slots m.next m.code) ?_
  refine TT.forS (σ := List Int × List Int × Int × List SInstr) (L := fun f n i s => L_s_l8Build_2 (M_s_l8Build f) t _ n s.1 i s.2.1 s.2.2.1 s.2.2.2) t.kids.length (by omega)
    (fun i s => WfS ⟨s.2.1, s.2.2.1, s.2.2.2⟩ ∧ aS ⟨s.2.1, s.2.2.1, s.2.2.2⟩ = (bldK (t.kids.take i) (aS m)).1 ∧ s.1 = (bldK (t.kids.take i) (aS m)).2.map enc ∧ ∀ o ∈ (bldK (t.kids.take i) (aS m)).2, Nn o) (fun i s hi hI kk => ?_) (fun s hI => ?_) ([], m.slots, m.next, m.code) ⟨hm, by simp [bldK], by simp [bldK], fun o ho => by simp [bldK] at ho⟩
  · obtain ⟨b1, s1, n1, c1⟩ := s
    obtain ⟨hw, hI, hl, hv⟩ := hI
    simp only at hw hI hl hv
    simp only [L_s_l8Build_2, jn]
    obtain ⟨y, hy, hy', hym⟩ := listAt hi
    have hsn := take_snoc hy'
    have hny : nodesL (t.kids.take i) + nodes y ≤ nodesL t.kids := by
      have h1 := nodesL_le t.kids (i + 1)
      rw [nodesL_take hy'] at h1; exact h1
    have hsb : Sb (k + 2 * nodesL (t.kids.take i)) (aS ⟨s1, n1, c1⟩) := by
      rw [hI]; exact (Sb.bldK _ hb).le (by omega)
    have hblen : b1.length = i := by rw [hl, List.length_map, bldK_len]; simp; omega
    refine TT.ct (by simp; omega) (TT.guard (by simp) (TT.opt hy (TT.cond (fun h => ?_) fun h => ?_)))
    · have e : y.kind = 3 := by simpa using h
      refine TT.bind (ih y hym (by omega) ⟨_, hsh y hym⟩ hw hsb (by omega)) fun z hz => TT.guard (by simp; omega) ?_
      obtain ⟨hz1, hz2⟩ := hz
      rw [wrapS hi (by omega)]
      have hstep : bldK (t.kids.take (i + 1)) (aS m) = ((bld y (aS ⟨s1, n1, c1⟩)).1, (bldK (t.kids.take i) (aS m)).2 ++ [some (bld y (aS ⟨s1, n1, c1⟩)).2]) := by rw [hsn, bldK_snoc, if_pos e, ← hI]
      rw [← hz2] at hstep
      have hz0 : 0 ≤ z.2 := by
        have h1 := congrArg Prod.snd hz2
        rw [bld_eq] at h1
        simp only at h1
        rw [h1]
        exact (Sb.bldK y.kids hsb).2.1
      refine kk (b1 ++ [z.2], z.1.slots, z.1.next, z.1.code) ⟨hz1, by rw [hstep], by rw [hstep, hl]; simp [enc], fun o ho => ?_⟩
      rw [hstep] at ho
      rcases List.mem_append.1 ho with ho | ho
      · exact hv o ho
      · rw [List.mem_singleton.1 ho]; exact hz0
    · have e : ¬ y.kind = 3 := by simpa using h
      refine TT.guard (by simp; omega) ?_
      rw [wrapS hi (by omega)]
      have hstep : bldK (t.kids.take (i + 1)) (aS m) = (aS ⟨s1, n1, c1⟩, (bldK (t.kids.take i) (aS m)).2 ++ [none]) := by rw [hsn, bldK_snoc, if_neg e, ← hI]
      refine kk (b1 ++ [-1], s1, n1, c1) ⟨hw, by rw [hstep], by rw [hstep, hl]; simp [enc], fun o ho => ?_⟩
      rw [hstep] at ho
      rcases List.mem_append.1 ho with ho | ho
      · exact hv o ho
      · rw [List.mem_singleton.1 ho]; trivial
  · obtain ⟨b1, s1, n1, c1⟩ := s
    obtain ⟨hw, hI, hl, hv⟩ := hI
    simp only at hw hI hl hv
    rw [List.take_length] at hI hl hv
    simp only [L_s_l8Build_2, jn]
    have hsb : Sb (k + 2 * nodesL t.kids - t.kids.length) (aS ⟨s1, n1, c1⟩) := by rw [hI]; exact Sb.bldK _ hb
    obtain ⟨q1, q2, q3⟩ := id hsb
    simp only [aS] at q1 q2 q3
    rw [wrap_id (x := n1 + 1) (by omega) (by omega)]
    refine TT.cf (by simp) (TT.bind (emit_s (m := ⟨s1, n1 + 1, c1⟩) (by simp only; omega) _ _ rfl) fun z hz => ?_)
    subst hz
    have hblen : (bldK t.kids (aS m)).2.length = t.kids.length := bldK_len _ _
    have hs2 : aS ⟨s1, n1 + 1, c1 ++ [⟨7, (t.kids.length : Int), n1, t.name⟩]⟩ = (bldK t.kids (aS m)).1.inc.emit ⟨7, (t.kids.length : Int), (bldK t.kids (aS m)).1.next, t.name⟩ := by rw [← hI]; rfl
    have hsb2 : Sb (k + 2 * nodesL t.kids - t.kids.length + 1) (aS ⟨s1, n1 + 1, c1 ++ [⟨7, (t.kids.length : Int), n1, t.name⟩]⟩) := by rw [hs2]; exact (Sb.bldK _ hb).ie _
    obtain ⟨N, a, ha, h⟩ : TT (fun f n => L_s_l8Build_1 f t b1 (fun v__k v__l v__m => some ((Sl8Maker.mk v__k v__l v__m), n1)) n 0 s1 (n1 + 1) (c1 ++ [⟨7, (t.kids.length : Int), n1, t.name⟩])) (fun r => WfS r.1 ∧ (aS r.1, r.2) = bld t (aS m)) := by
      refine TT.forS (σ := List Int × Int × List SInstr) (L := fun f n i s => L_s_l8Build_1 f t b1 _ n i s.1 s.2.1 s.2.2) t.kids.length (by omega)
        (fun i s => WfS ⟨s.1, s.2.1, s.2.2⟩ ∧ aS ⟨s.1, s.2.1, s.2.2⟩ = putK (t.kids.take i) ((bldK t.kids (aS m)).2.take i) (aS ⟨s1, n1 + 1, c1 ++ [⟨7, (t.kids.length : Int), n1, t.name⟩]⟩)) (fun i s hi hI2 kk => ?_) (fun s hI2 => ?_) (s1, n1 + 1, _) ⟨hw, by simp [putK]⟩
      · obtain ⟨s2, n2, c2⟩ := s
        obtain ⟨hw2, hI2⟩ := hI2
        simp only at hw2 hI2
        simp only [L_s_l8Build_1, jn]
        obtain ⟨y, hy, hy', hym⟩ := listAt hi
        obtain ⟨o, ho⟩ : ∃ o, (bldK t.kids (aS m)).2[i]? = some o := ⟨_, List.getElem?_eq_getElem (by omega)⟩
        have hstep := putK_snoc y o (t.kids.take i) ((bldK t.kids (aS m)).2.take i) (aS ⟨s1, n1 + 1, c1 ++ [⟨7, (t.kids.length : Int), n1, t.name⟩]⟩) (by simp; omega)
        rw [← take_snoc hy', ← take_snoc ho, ← hI2] at hstep
        have hko := bldK_kind _ _ i y o hy' ho
        have hsb3 : Sb (k + 2 * nodesL t.kids - t.kids.length + 1 + i) (aS ⟨s2, n2, c2⟩) := by
          rw [hI2]; exact (Sb.putK _ _ hsb2).le (by simp; omega)
        have hbv : b1[((i : Nat) : Int).toNat]? = some (enc o) := by rw [hl]; simp [ho]
        have hon := hv o (List.mem_of_getElem? ho)
        rw [wrapS hi (by omega)]
        refine TT.ct (by simp; omega) (TT.guard (by simp) (TT.opt hbv (TT.cond (fun h => ?_) fun h => ?_)))
        · have h0 : 0 ≤ enc o := by simpa using h
          obtain ⟨v, rfl⟩ : ∃ v, o = some v := by cases o with | none => simp [enc] at h0 | some v => exact ⟨v, rfl⟩
          refine TT.bind (emit_s (m := ⟨s2, n2, c2⟩) (by have := hsb3.1; simp only [aS] at this; simp only; omega) _ _ rfl) fun z hz => ?_
          subst hz
          exact kk (s2, n2, _) ⟨hw2, by rw [hstep]; rfl⟩
        · have h0 : ¬ 0 ≤ enc o := by simpa using h
          have e : o = none := by cases o with | none => rfl | some v => exact absurd hon h0
          have e3 : ¬ y.kind = 3 := fun hh => by obtain ⟨v, hv⟩ := hko.1 hh; rw [e] at hv; cases hv
          subst e
          refine TT.guard (by simp <;> omega) (TT.guard (by simp <;> omega) (TT.guard (by simp <;> omega) (TT.bind (one_s hw2 hsb3 (by omega) hy' (shape_node (hsh y hym)) e3 (by omega) (by simp)) fun z hz => ?_)))
          exact kk (z.1.slots, z.1.next, z.1.code) ⟨hz.1, by rw [hstep, ← hz.2]⟩
      · obtain ⟨s2, n2, c2⟩ := s
        obtain ⟨hw2, hI2⟩ := hI2
        simp only at hw2 hI2
        rw [List.take_length, List.take_of_length_le (by omega)] at hI2
        simp only [L_s_l8Build_1, jn]
        refine TT.cf (by simp) (TT.pure ⟨hw2, ?_⟩)
        rw [bld_eq]
        simp only
        rw [hI2, hs2, ← hI]
        rfl
    exact ⟨N, a, ha, fun f n hf _ => h f f hf hf⟩

theorem put_s (t : STerm) (hn : nodes t ≤ 1000) {d : Nat} (hd : shape t d = true) {m : Sl8Maker} (hm : WfS m) {k : Nat} (hb : Sb k (aS m)) (hk : k + 2 * nodes t ≤ 100000) (i : Int) :
    TT (fun f _ => M_s_l8Put f m t i) (fun r => WfS r ∧ aS r = putA (aS m) i t) := by
  have hno := shape_node hd
  obtain ⟨b1, b2, b3⟩ := id hb
  simp only [aS] at b1 b2 b3
  unfold M_s_l8Put jn
  refine TT.cond (fun h => ?_) fun h => TT.cond (fun h2 => ?_) fun h2 => TT.cf rfl (TT.cf h2 ?_)
  · have e : t.kind = 2 := by simpa using h
    refine TT.bind (emit_s (by omega) _ _ rfl) fun z hz => TT.pure ?_
    subst hz
    refine ⟨hm, ?_⟩
    simp only [putA, if_pos e]
    rfl
  · have e : t.kind = 1 := by simpa using h2
    obtain ⟨v1, v2, _, _⟩ := node_var hno e
    obtain ⟨w, hw1, hw2⟩ := aS_at hm v1 v2
    refine TT.guard (by simpa using v1) (TT.opt hw1 (TT.cond (fun h3 => ?_) fun h3 => TT.ct h2 ?_))
    · have hp : 0 ≤ w := by simpa using h3
      refine TT.guard (by simpa using v1) (TT.opt hw1 (TT.bind (emit_s (by omega) _ _ rfl) fun z hz => TT.pure ?_))
      subst hz
      refine ⟨hm, ?_⟩
      simp only [putA, if_neg (show ¬ t.kind = 2 by omega), if_pos e, hw2, if_pos hp]
      rfl
    · have hp : ¬ 0 ≤ w := by simpa using h3
      refine TT.bind (slot_s hm v1 v2 _ _ rfl) fun z hz => ?_
      subst hz
      simp only
      rw [wrap_id (x := m.next + 1) (by omega) (by omega), wrap_id (x := m.next + 1 - 1) (by omega) (by omega)]
      refine TT.bind (emit_s (m := ⟨m.slots.set t.n.toNat m.next, m.next + 1, m.code⟩) (by simp only; omega) _ _ rfl) fun z hz => TT.pure ?_
      subst hz
      have hb := aS_bind hm v1 v2 (v := m.next) b2
      refine ⟨by unfold WfS at hm ⊢; simpa using hm, ?_⟩
      simp only [putA, if_neg (show ¬ t.kind = 2 by omega), if_pos e, hw2, if_neg hp]
      rw [Int.add_sub_cancel]
      show _ = ((aS m).bindv t.n m.next).inc.emit _
      rw [← hb]
      rfl
  · have e1 : ¬ t.kind = 1 := by simpa using h2
    have e2 : ¬ t.kind = 2 := by simpa using h
    refine TT.bind (build_s t hn ⟨d, hd⟩ hm hb hk) fun z hz => ?_
    have hsb4 : Sb (k + 2 * nodes t - 1) (aS z.1) := by
      have := Sb.bld t hb
      rw [← hz.2] at this; exact this
    refine TT.bind (emit_s (by have := hsb4.1; simp only [aS] at this; omega) _ _ rfl) fun w hw => TT.pure ?_
    subst hw
    refine ⟨hz.1, ?_⟩
    simp only [putA, if_neg e1, if_neg e2, ← hz.2]
    rfl

theorem goalL_s (g : STerm) (hn : nodes g ≤ 1000) {d : Nat} (hd : ∀ x ∈ g.kids, shape x d = true) {m : Sl8Maker} (hm : WfS m) {k : Nat} (hb : Sb k (aS m)) (hk : k + 2 * nodes g ≤ 100000) {Q : Sl8Maker → Prop}
    {J : Nat → Nat → List Int → Int → List SInstr → Option Sl8Maker} (hJ : ∀ r : Sl8Maker, WfS r → aS r = putAs g.kids 0 (aS m) → TT (fun f n => J f n r.slots r.next r.code) Q) :
    TT (fun f n => L_s_l8Goals_2 f g (J f n) f 0 m.slots m.next m.code) Q := by
  have snoc : ∀ (l : List STerm) (x : STerm) (i : Nat) (s : CS), putAs (l ++ [x]) i s = putA (putAs l i s) ((i + l.length : Nat) : Int) x := by
    intro l
    induction l with
    | nil => intro x i s; rfl
    | cons t ts ih => intro x i s; simp only [List.cons_append, putAs, ih, List.length_cons]; congr 1; omega
  have hkl := len_nodes g.kids
  have hne := nodes_eq g
  refine T3.loop (L := fun f n c => L_s_l8Goals_2 f g (J f n) c 0 m.slots m.next m.code) ?_
  refine T3.forS (σ := List Int × Int × List SInstr) (L := fun f n c i s => L_s_l8Goals_2 f g (J f n) c i s.1 s.2.1 s.2.2) g.kids.length (by omega)
    (fun i s => WfS ⟨s.1, s.2.1, s.2.2⟩ ∧ aS ⟨s.1, s.2.1, s.2.2⟩ = putAs (g.kids.take i) 0 (aS m)) (fun i s hi hI kk => ?_) (fun s hI => ?_) (m.slots, m.next, m.code) ⟨hm, by simp [putAs]⟩
  · obtain ⟨s1, n1, c1⟩ := s
    obtain ⟨hw, hI⟩ := hI
    simp only at hw hI
    simp only [L_s_l8Goals_2, jn]
    obtain ⟨y, hy, hy', hym⟩ := listAt hi
    have hny : nodesL (g.kids.take i) + nodes y ≤ nodesL g.kids := by
      have h1 := nodesL_le g.kids (i + 1)
      rw [nodesL_take hy'] at h1; exact h1
    have hsb : Sb (k + 2 * nodesL (g.kids.take i)) (aS ⟨s1, n1, c1⟩) := by rw [hI]; exact Sb.putAs _ 0 hb
    have hlen : (g.kids.take i).length = i := by simp; omega
    have hstep : putAs (g.kids.take (i + 1)) 0 (aS m) = putA (aS ⟨s1, n1, c1⟩) (i : Int) y := by rw [take_snoc hy', snoc, ← hI, hlen, Nat.zero_add]
    refine T3.ct (by simp; omega) (T3.guard (by simp) (T3.opt hy (T3.bind (put_s y (by omega) (hd y hym) hw hsb (by omega) _) fun z hz => ?_)))
    rw [wrapS hi (by omega)]
    exact kk (z.slots, z.next, z.code) ⟨hz.1, by rw [hstep]; exact hz.2⟩
  · obtain ⟨s1, n1, c1⟩ := s
    obtain ⟨hw, hI⟩ := hI
    simp only at hw hI
    rw [List.take_length] at hI
    simp only [L_s_l8Goals_2, jn]
    exact T3.cf (by simp) (T3.of (hJ ⟨s1, n1, c1⟩ hw hI))

theorem goals_s (l : List STerm) (hl : l.length ≤ 6) (hall : ∀ g ∈ l, goalOk g = true) {m : Sl8Maker} (hm : WfS m) {k : Nat} (hb : Sb k (aS m)) (hk : k ≤ 10000) :
    TT (fun f _ => M_s_l8Goals f m l) (fun r => r.code = (bodyC l (aS m)).code) := by
  have hg : ∀ g ∈ l, nodes g ≤ 120 ∧ ∃ d, ∀ x ∈ g.kids, shape x d = true := fun g hm => by
    have := hall g hm
    simp only [goalOk, termOk, Bool.and_eq_true, decide_eq_true_eq] at this
    exact ⟨this.1.2, _, shape_kids this.1.1⟩
  have hnl : ∀ l' : List STerm, (∀ g ∈ l', nodes g ≤ 120) → nodesL l' ≤ 120 * l'.length := by
    intro l'
    induction l' with
    | nil => intro _; simp [nodesL]
    | cons t ts ih => intro h; have h1 := h t (by simp); have h2 := ih fun g hg => h g (by simp [hg]); simp only [nodesL, List.length_cons]; omega
  unfold M_s_l8Goals jn
  refine TT.loop (L := fun f n => L_s_l8Goals_1 f l _ n 0 m.slots m.next m.code) ?_
  refine TT.forS (σ := List Int × Int × List SInstr) (L := fun f n i s => L_s_l8Goals_1 f l _ n i s.1 s.2.1 s.2.2) l.length (by omega)
    (fun i s => WfS ⟨s.1, s.2.1, s.2.2⟩ ∧ aS ⟨s.1, s.2.1, s.2.2⟩ = (l.take i).foldl goalC (aS m)) (fun i s hi hI kk => ?_) (fun s hI => ?_) (m.slots, m.next, m.code) ⟨hm, by simp⟩
  · obtain ⟨s1, n1, c1⟩ := s
    obtain ⟨hw, hI⟩ := hI
    simp only at hw hI
    simp only [L_s_l8Goals_1, jn]
    obtain ⟨y, hy, hy', hym⟩ := listAt hi
    have hsb : Sb (k + 2 * nodesL (l.take i)) (aS ⟨s1, n1, c1⟩) := by rw [hI]; exact Sb.goalsC _ hb
    have h1 := hnl (l.take i) fun g hgm => (hg g (List.mem_of_mem_take hgm)).1
    have h2 : (l.take i).length ≤ 6 := by simp; omega
    obtain ⟨g1, d, g2⟩ := hg y hym
    have hstep : (l.take (i + 1)).foldl goalC (aS m) = goalC (aS ⟨s1, n1, c1⟩) y := by rw [take_snoc hy', List.foldl_append, ← hI]; rfl
    rw [wrapS hi (by omega)]
    refine TT.ct (by simp; omega) (TT.guard (by simp) (TT.opt hy (TT.bind (TT.any (fun f _ => cut_s f _) rfl) fun z hz => ?_)))
    subst hz
    refine TT.cond (fun h => TT.bind (emit_s (m := ⟨s1, n1, c1⟩) (by have := hsb.1; simp only [aS] at this; simp only; omega) _ _ rfl) fun z hz => ?_) fun h => ?_
    · subst hz
      refine kk (s1, n1, _) ⟨hw, ?_⟩
      rw [hstep]
      simp only [goalC, h, if_true]
      rfl
    · refine goalL_s (J := fun f n v__i v__j v__k => Option.bind (M_s_IsBuiltin f y.name (y.kids.length : Int)) fun z__4 => bif z__4 then (Option.bind (M_s_l8Emit f (Sl8Maker.mk v__i v__j v__k) (SInstr.mk 12 (y.kids.length : Int) 0 y.name)) fun z__3 => L_s_l8Goals_1 f l _ n ((i : Int) + 1) z__3.slots z__3.next z__3.code) else (Option.bind (M_s_l8Emit f (Sl8Maker.mk v__i v__j v__k) (SInstr.mk 11 (y.kids.length : Int) 0 y.name)) fun z__3 => L_s_l8Goals_1 f l _ n ((i : Int) + 1) z__3.slots z__3.next z__3.code)) y (by omega) g2 (m := ⟨s1, n1, c1⟩) hw hsb (by omega) fun r hr he => ?_
      have hk3 : y.kind = 3 := by
        have h9 := hall y hym
        simp only [goalOk, h, Bool.false_or, Bool.and_eq_true, Bool.or_eq_true, isPlainT, isBuiltT, beq_iff_eq] at h9
        rcases h9.2 with h9 | h9 <;> exact h9.1
      have hsr := Sb.putAs y.kids 0 hsb
      rw [← he] at hsr
      have hne := nodes_eq y
      have hc : r.code.length ≤ 1000000 := by have := hsr.1; simp only [aS] at this; omega
      refine TT.bind (TT.any (fun f _ => bui_s f _ _) rfl) fun z hz => ?_
      subst hz
      refine TT.cond (fun h2 => TT.bind (emit_s (m := ⟨r.slots, r.next, r.code⟩) hc _ _ rfl) fun z hz => ?_) fun h2 => TT.bind (emit_s (m := ⟨r.slots, r.next, r.code⟩) hc _ _ rfl) fun z hz => ?_
      · subst hz
        refine kk (r.slots, r.next, _) ⟨hr, ?_⟩
        rw [hstep]
        have h2' : isBuiltT y = true := by rw [isBuiltT, hk3]; exact h2
        simp only [goalC, h, h2', if_true, ← he]
        rfl
      · subst hz
        refine kk (r.slots, r.next, _) ⟨hr, ?_⟩
        rw [hstep]
        have h2' : isBuiltT y = false := by rw [isBuiltT, hk3]; exact h2
        simp only [goalC, h, h2', ← he]
        rfl
  · obtain ⟨s1, n1, c1⟩ := s
    obtain ⟨hw, hI⟩ := hI
    simp only at hw hI
    rw [List.take_length] at hI
    have hsb : Sb (k + 2 * nodesL l) (aS ⟨s1, n1, c1⟩) := by rw [hI]; exact Sb.goalsC _ hb
    have h1 := hnl l fun g hgm => (hg g hgm).1
    simp only [L_s_l8Goals_1]
    refine TT.cf (by simp) (TT.bind (emit_s (m := ⟨s1, n1, c1⟩) (by have := hsb.1; simp only [aS] at this; simp only; omega) _ _ rfl) fun z hz => TT.pure ?_)
    subst hz
    simp only [bodyC, ← hI]
    rfl

theorem start_s : TT (fun f _ => M_s_l8Start f) (fun r => WfS r ∧ aS r = start) := by
  refine ⟨30, ⟨List.replicate 26 (-1), 4, []⟩, ⟨rfl, ?_⟩, fun f _ hf _ => ?_⟩
  · simp only [aS, start]
    congr 1
    funext k
    by_cases h : 0 ≤ k ∧ k ≤ 25
    · rw [if_pos h, List.getElem?_replicate]
      split
      · rename_i v hv; split at hv <;> simp at hv; subst hv; rfl
      · rfl
    · rw [if_neg h]
  · obtain ⟨g, rfl⟩ : ∃ g, f = g + 30 := ⟨f - 30, by omega⟩
    rfl

theorem compile_s (c : SClause) (h : clauseOk c = true) : TT (fun f _ => M_s_l8Clause f c) (· = codeC c) := by
  obtain ⟨⟨d, hd⟩, h2, h3, h4, h5, h6, h7⟩ := clause_parts h
  have hne := nodes_eq c.head
  unfold M_s_l8Clause
  refine TT.bind start_s fun z hz => TT.bind (head_s _ h4 (by omega) (shape_kids hd) hz.1 hz.2) fun y hy => ?_
  have hsb : Sb 1000 (headC c.head.kids) := by
    obtain ⟨k1, k2⟩ := Sb.headAs c.head.kids (p := (start, [])) (k := 4) 0 ⟨by simp [start], by simp [start], by simp [start]⟩
    simp only [pq] at k2
    exact (Sb.headQ _ k1).le (by omega)
  refine TT.bind (goals_s _ h6 h7 hy.1 (k := 1000) (by rw [hy.2]; exact hsb) (by omega)) fun w hw => TT.pure ?_
  rw [hw, hy.2]
  rfl

end Go.Am
