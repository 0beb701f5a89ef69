/-
  Plain Lean: the program's code of a clause, its body.
-/
import Derived.Test.YtbmlendfheakeaaGreatPlI
namespace Go.Am
open Go.Proofs
set_option linter.unusedVariables false

theorem bldK_len : ∀ (l : List STerm) (s : CS), (bldK l s).2.length = l.length
  | [], s => rfl
  | t :: ts, s => by
    simp only [bldK]
    split
    · simp [bldK_len ts]
    · simp [bldK_len ts]
theorem bldK_snoc (x : STerm) : ∀ (l : List STerm) (s : CS), bldK (l ++ [x]) s = if x.kind = 3 then ((bld x (bldK l s).1).1, (bldK l s).2 ++ [some (bld x (bldK l s).1).2]) else ((bldK l s).1, (bldK l s).2 ++ [none])
  | [], s => by
    simp only [List.nil_append, bldK]
  | t :: ts, s => by
    simp only [List.cons_append, bldK]
    by_cases h : t.kind = 3
    · simp only [if_pos h, bldK_snoc x ts]
      split <;> simp
    · simp only [if_neg h, bldK_snoc x ts]
      split <;> simp
theorem putK_snoc (x : STerm) (o : Option Int) : ∀ (l : List STerm) (vs : List (Option Int)) (s : CS), vs.length = l.length → putK (l ++ [x]) (vs ++ [o]) s = match o with
    | some v => (putK l vs s).emit ⟨5, v, 0, noName⟩
    | none => arg1 (putK l vs s) x
  | [], [], s, _ => by cases o <;> rfl
  | t :: ts, some v :: vs, s, h => by
    simp only [List.cons_append, putK]
    exact putK_snoc x o ts vs _ (by simpa using h)
  | t :: ts, none :: vs, s, h => by
    simp only [List.cons_append, putK]
    exact putK_snoc x o ts vs _ (by simpa using h)
  | [], _ :: _, _, h => by simp at h
  | _ :: _, [], _, h => by simp at h

theorem take_snoc {α : Type} {l : List α} {i : Nat} {x : α} (h : l[i]? = some x) : l.take (i + 1) = l.take i ++ [x] := by rw [List.take_add_one, h]; rfl

theorem build_i : ∀ t : STerm, nodes t ≤ 1000 → ∀ {m : List (Int × Int)} {next : Int} {code : List SInstr} {k : Nat}, Sb k (aI m next code) → k + 2 * nodes t ≤ 100000 →
    TT (fun f _ => M_i_coding_build f t next code m) (fun r => (aI r.2.2.2 r.2.1 r.2.2.1, r.1) = bld t (aI m next code)) := by
  refine STerm.ind fun t ih hn m next code k hb hk => TT.fsucc ?_
  have hkl := len_nodes t.kids
  have hne := nodes_eq t
  show TT (fun f _ => B_i_coding_build f (M_i_coding_build f) t next code m) _
  unfold B_i_coding_build jn
  refine TT.guard (by simp) (TT.guard (by simp; omega) ?_)
  refine TT.loop (L := fun f n => L_i_coding_build_2 (M_i_coding_build f) t _ n 0 next code m _) ?_
  refine TT.forS (σ := Int × List SInstr × List (Int × Int) × List Int) (L := fun f n i s => L_i_coding_build_2 (M_i_coding_build f) t _ n i s.1 s.2.1 s.2.2.1 s.2.2.2) t.kids.length (by omega)
    (fun i s => aI s.2.2.1 s.1 s.2.1 = (bldK (t.kids.take i) (aI m next code)).1 ∧ s.2.2.2.length = t.kids.length ∧ ∀ (j : Nat) (v : Int), (bldK (t.kids.take i) (aI m next code)).2[j]? = some (some v) → s.2.2.2[j]? = some v) (fun i s hi hI kk => ?_) (fun s hI => ?_) (next, code, m, _) ⟨by simp [bldK], by simp, fun j v hj => by simp [bldK] at hj⟩
  · obtain ⟨n1, c1, m1, b1⟩ := s
    obtain ⟨hI, hl, hv⟩ := hI
    simp only at hI hl hv
    simp only [L_i_coding_build_2, jn]
    obtain ⟨y, hy, hy', hm⟩ := listAt hi
    have hsn := take_snoc hy'
    have hny : nodesL (t.kids.take i) + nodes y ≤ nodesL t.kids := by
      have h1 := nodesL_le t.kids (i + 1)
      rw [nodesL_take hy'] at h1; exact h1
    have hsb : Sb (k + 2 * nodesL (t.kids.take i)) (aI m1 n1 c1) := by
      rw [hI]; exact (Sb.bldK _ hb).le (by omega)
    have hblen : (bldK (t.kids.take i) (aI m next code)).2.length = i := by rw [bldK_len]; simp; omega
    refine TT.ct (by simp; omega) (TT.guard (by simp) (TT.opt hy (TT.cond (fun h => ?_) fun h => ?_)))
    · have e : y.kind = 3 := by simpa using h
      refine TT.bind (ih y hm (by omega) hsb (by omega)) fun z hz => ?_
      obtain ⟨w, hw⟩ : ∃ w, b1[((i : Nat) : Int).toNat]? = some w := ⟨b1[i], by simp [hl, hi]⟩
      refine TT.opt hw ?_
      rw [wrapS hi (by omega)]
      have hstep : bldK (t.kids.take (i + 1)) (aI m next code) = ((bld y (aI m1 n1 c1)).1, (bldK (t.kids.take i) (aI m next code)).2 ++ [some (bld y (aI m1 n1 c1)).2]) := by rw [hsn, bldK_snoc, if_pos e, ← hI]
      refine kk (z.2.1, z.2.2.1, z.2.2.2, b1.set i z.1) ⟨?_, by simpa using hl, fun j v hj => ?_⟩
      · rw [hstep, ← hz]
      · rw [hstep, ← hz] at hj
        simp only at hj ⊢
        by_cases hji : j = i
        · subst hji
          rw [List.getElem?_append_right (by omega), hblen, Nat.sub_self] at hj
          simp only [List.getElem?_cons_zero, Option.some.injEq] at hj
          rw [List.getElem?_set_self (by omega), hj]
        · have hlt : j < i := by
            have := (List.getElem?_eq_some_iff.1 hj).1
            simp [hblen] at this; omega
          rw [List.getElem?_append_left (by omega)] at hj
          rw [List.getElem?_set_ne (Ne.symm hji)]
          exact hv j v hj
    · have e : ¬ y.kind = 3 := by simpa using h
      rw [wrapS hi (by omega)]
      have hstep : bldK (t.kids.take (i + 1)) (aI m next code) = (aI m1 n1 c1, (bldK (t.kids.take i) (aI m next code)).2 ++ [none]) := by rw [hsn, bldK_snoc, if_neg e, ← hI]
      refine kk (n1, c1, m1, b1) ⟨by rw [hstep], hl, fun j v hj => ?_⟩
      rw [hstep] at hj
      simp only at hj ⊢
      have hlt : j < i := by
        have h1 := (List.getElem?_eq_some_iff.1 hj).1
        simp [hblen] at h1
        by_cases hji : j = i
        · subst hji
          rw [List.getElem?_append_right (by omega), hblen, Nat.sub_self] at hj
          simp at hj
        · omega
      rw [List.getElem?_append_left (by omega)] at hj
      exact hv j v hj
  · obtain ⟨n1, c1, m1, b1⟩ := s
    obtain ⟨hI, hl, hv⟩ := hI
    simp only at hI hl hv
    rw [List.take_length] at hI hv
    simp only [L_i_coding_build_2, jn]
    have hsb : Sb (k + 2 * nodesL t.kids - t.kids.length) (aI m1 n1 c1) := by rw [hI]; exact Sb.bldK _ hb
    obtain ⟨q1, q2, q3⟩ := hsb
    simp only [aI] at q1 q2 q3
    refine TT.cf (by simp) (TT.bind (slot_i q2 (by omega) _ _ (· = (n1, n1 + 1)) rfl) fun z hz => ?_)
    subst hz
    refine TT.bind (add_i (by omega) _ _ _ _ rfl) fun z hz => ?_
    subst hz
    have hblen : (bldK t.kids (aI m next code)).2.length = t.kids.length := bldK_len _ _
    have hs2 : aI m1 (n1 + 1) (c1 ++ [⟨7, (t.kids.length : Int), n1, t.name⟩]) = (bldK t.kids (aI m next code)).1.inc.emit ⟨7, (t.kids.length : Int), (bldK t.kids (aI m next code)).1.next, t.name⟩ := by rw [← hI]; rfl
    have hsb2 : Sb (k + 2 * nodesL t.kids - t.kids.length + 1) (aI m1 (n1 + 1) (c1 ++ [⟨7, (t.kids.length : Int), n1, t.name⟩])) := by rw [hs2]; exact (Sb.bldK _ hb).ie _
    obtain ⟨N, a, ha, h⟩ : TT (fun f n => L_i_coding_build_1 f t b1 (fun v_1188 v_1189 v_1190 => some (n1, v_1189, v_1190, v_1188)) n 0 m1 (n1 + 1) (c1 ++ [⟨7, (t.kids.length : Int), n1, t.name⟩])) (fun r => (aI r.2.2.2 r.2.1 r.2.2.1, r.1) = bld t (aI m next code)) := by
      refine TT.forS (σ := List (Int × Int) × Int × List SInstr) (L := fun f n i s => L_i_coding_build_1 f t b1 _ n i s.1 s.2.1 s.2.2) t.kids.length (by omega)
        (fun i s => aI s.1 s.2.1 s.2.2 = putK (t.kids.take i) ((bldK t.kids (aI m next code)).2.take i) (aI m1 (n1 + 1) (c1 ++ [⟨7, (t.kids.length : Int), n1, t.name⟩]))) (fun i s hi hI2 kk => ?_) (fun s hI2 => ?_) (m1, n1 + 1, _) (by simp [putK])
      · obtain ⟨m2, n2, c2⟩ := s
        simp only at hI2
        simp only [L_i_coding_build_1, jn]
        obtain ⟨y, hy, hy', hm⟩ := listAt hi
        obtain ⟨o, ho⟩ : ∃ o, (bldK t.kids (aI m next code)).2[i]? = some o := ⟨_, List.getElem?_eq_getElem (by omega)⟩
        have hstep := putK_snoc y o (t.kids.take i) ((bldK t.kids (aI m next code)).2.take i) (aI m1 (n1 + 1) (c1 ++ [⟨7, (t.kids.length : Int), n1, t.name⟩])) (by simp; omega)
        rw [← take_snoc hy', ← take_snoc ho, ← hI2] at hstep
        have hko : (y.kind = 3 → ∃ v, o = some v) ∧ (¬ y.kind = 3 → o = none) := by
          have key : ∀ (l : List STerm) (s : CS) (i : Nat) (y : STerm) (o : Option Int), l[i]? = some y → (bldK l s).2[i]? = some o → (y.kind = 3 → ∃ v, o = some v) ∧ (¬ y.kind = 3 → o = none) := by
            intro l
            induction l with
            | nil => intro s i y o h; simp at h
            | cons t ts ih2 =>
              intro s i y o h h'
              simp only [bldK] at h'
              cases i with
              | zero =>
                simp only [List.getElem?_cons_zero, Option.some.injEq] at h
                subst h
                split at h'
                · rename_i e; simp only [List.getElem?_cons_zero, Option.some.injEq] at h'; exact ⟨fun _ => ⟨_, h'.symm⟩, fun hh => absurd e hh⟩
                · rename_i e; simp only [List.getElem?_cons_zero, Option.some.injEq] at h'; exact ⟨fun hh => absurd hh e, fun _ => h'.symm⟩
              | succ i =>
                simp only [List.getElem?_cons_succ] at h
                split at h' <;> (simp only [List.getElem?_cons_succ] at h'; exact ih2 _ i y o h h')
          exact key _ _ i y o hy' ho
        have hsb3 : Sb (k + 2 * nodesL t.kids - t.kids.length + 1 + i) (aI m2 n2 c2) := by
          rw [hI2]; exact (Sb.putK _ _ hsb2).le (by simp; omega)
        refine TT.ct (by simp; omega) (TT.guard (by simp) (TT.opt hy (TT.cond (fun h => ?_) fun h => ?_)))
        · have e : y.kind = 3 := by simpa using h
          obtain ⟨v, rfl⟩ := hko.1 e
          have hbv : b1[((i : Nat) : Int).toNat]? = some v := by simpa using hv i v ho
          refine TT.opt hbv (TT.bind (add_i (by have := hsb3.1; simp only [aI] at this; omega) _ _ _ _ rfl) fun z hz => ?_)
          subst hz
          rw [wrapS hi (by omega)]
          exact kk (m2, n2, _) (by rw [hstep]; rfl)
        · have e : ¬ y.kind = 3 := by simpa using h
          have := hko.2 e
          subst this
          refine TT.bind (described_i y hsb3 (by omega)) fun z hz => ?_
          rw [wrapS hi (by omega)]
          exact kk (z.2.2, z.1, z.2.1) (by rw [hstep, ← hz])
      · obtain ⟨m2, n2, c2⟩ := s
        simp only at hI2
        rw [List.take_length, List.take_of_length_le (by omega)] at hI2
        simp only [L_i_coding_build_1, jn]
        refine TT.cf (by simp) (TT.pure ?_)
        rw [bld_eq]
        simp only
        rw [hI2, hs2, ← hI]
        rfl
    exact ⟨N, a, ha, fun f n hf _ => h f f hf hf⟩

theorem goalL_i (g : STerm) (hn : nodes g ≤ 1000) (hkind : ∀ x ∈ g.kids, nodeOk x = true) {m : List (Int × Int)} {next : Int} {code : List SInstr} {k : Nat} (hb : Sb k (aI m next code)) (hk : k + 2 * nodes g ≤ 100000) {Q : Int × List SInstr × List (Int × Int) → Prop}
    {J : Nat → Int → List SInstr → List (Int × Int) → Option (Int × List SInstr × List (Int × Int))} (hJ : ∀ n' c' m', aI m' n' c' = putAs g.kids 0 (aI m next code) → TT (fun f _ => J f n' c' m') Q) :
    TT (fun f _ => L_i_coding_goal_1 f g (J f) f 0 next code m) Q := by
  have snoc : ∀ (l : List STerm) (x : STerm) (i : Nat) (s : CS), putAs (l ++ [x]) i s = putA (putAs l i s) ((i + l.length : Nat) : Int) x := by
    intro l
    induction l with
    | nil => intro x i s; rfl
    | cons t ts ih => intro x i s; simp only [List.cons_append, putAs, ih, List.length_cons]; congr 1; omega
  have hkl := len_nodes g.kids
  have hne := nodes_eq g
  refine TT.loop (L := fun f n => L_i_coding_goal_1 f g (J f) n 0 next code m) ?_
  refine TT.forS (σ := Int × List SInstr × List (Int × Int)) (L := fun f n i s => L_i_coding_goal_1 f g (J f) n i s.1 s.2.1 s.2.2) g.kids.length (by omega)
    (fun i s => aI s.2.2 s.1 s.2.1 = putAs (g.kids.take i) 0 (aI m next code)) (fun i s hi hI kk => ?_) (fun s hI => ?_) (next, code, m) (by simp [putAs])
  · obtain ⟨n1, c1, m1⟩ := s
    simp only at hI
    simp only [L_i_coding_goal_1, jn]
    obtain ⟨y, hy, hy', hm⟩ := listAt hi
    have hny : nodesL (g.kids.take i) + nodes y ≤ nodesL g.kids := by
      have h1 := nodesL_le g.kids (i + 1)
      rw [nodesL_take hy'] at h1; exact h1
    have hsb : Sb (k + 2 * nodesL (g.kids.take i)) (aI m1 n1 c1) := by rw [hI]; exact Sb.putAs _ 0 hb
    have hlen : (g.kids.take i).length = i := by simp; omega
    have hstep : putAs (g.kids.take (i + 1)) 0 (aI m next code) = putA (aI m1 n1 c1) (i : Int) y := by rw [take_snoc hy', snoc, ← hI, hlen, Nat.zero_add]
    have hsb' := hsb
    obtain ⟨b1, b2, b3⟩ := hsb
    simp only [aI] at b1 b2 b3
    refine TT.ct (by simp; omega) (TT.guard (by simp) (TT.opt hy (TT.cond (fun h => ?_) fun h => TT.cond (fun h2 => TT.cond (fun h3 => ?_) fun h3 => ?_) fun h2 => ?_)))
    · have e : y.kind = 2 := by simpa using h
      refine TT.bind (add_i (by omega) _ _ _ _ rfl) fun z hz => ?_
      subst hz
      rw [wrapS hi (by omega)]
      refine kk (n1, _, m1) ?_
      rw [hstep]
      simp only [putA, if_pos e]
      rfl
    · have e : y.kind = 1 := by simpa using h2
      obtain ⟨v, hv⟩ := Option.isSome_iff_exists.1 h3
      refine TT.bind (add_i (by omega) _ _ _ _ rfl) fun z hz => ?_
      subst hz
      rw [wrapS hi (by omega)]
      refine kk (n1, _, m1) ?_
      rw [hstep]
      have hs : (aI m1 n1 c1).sl y.n = some v := hv
      simp only [putA, if_neg (show ¬ y.kind = 2 by omega), if_pos e, hs, hv, Option.getD_some]
      rfl
    · have e : y.kind = 1 := by simpa using h2
      have hv : tfind y.n m1 = none := by simpa using h3
      refine TT.bind (slot_i b2 (by omega) _ _ (· = (n1, n1 + 1)) rfl) fun z hz => ?_
      subst hz
      refine TT.bind (add_i (by omega) _ _ _ _ rfl) fun z hz => ?_
      subst hz
      rw [wrapS hi (by omega)]
      refine kk (n1 + 1, _, _) ?_
      rw [hstep]
      have hs : (aI m1 n1 c1).sl y.n = none := hv
      have hf : tfind y.n (tset y.n n1 m1) = some n1 := by rw [tfind_tset, if_pos rfl]
      simp only [putA, if_neg (show ¬ y.kind = 2 by omega), if_pos e, hs, hf, Option.getD_some, aI_bind]
      rfl
    · have e2 : ¬ y.kind = 2 := by simpa using h
      have e1 : ¬ y.kind = 1 := by simpa using h2
      refine TT.bind (build_i y (by omega) hsb' (by omega)) fun z hz => ?_
      have hsb4 : Sb (k + 2 * nodesL (g.kids.take i) + 2 * nodes y - 1) (aI z.2.2.2 z.2.1 z.2.2.1) := by
        have := Sb.bld y hsb'
        rw [← hz] at this; exact this
      refine TT.bind (add_i (by have := hsb4.1; simp only [aI] at this; omega) _ _ _ _ rfl) fun w hw => ?_
      subst hw
      rw [wrapS hi (by omega)]
      refine kk (z.2.1, z.2.2.1 ++ [⟨9, z.1, (i : Int), noName⟩], z.2.2.2) ?_
      rw [hstep]
      simp only [putA, if_neg e1, if_neg e2, ← hz]
      rfl
  · obtain ⟨n1, c1, m1⟩ := s
    simp only at hI
    rw [List.take_length] at hI
    simp only [L_i_coding_goal_1, jn]
    refine TT.cf (by simp) ?_
    obtain ⟨N, a, ha, h⟩ := hJ n1 c1 m1 hI
    exact ⟨N, a, ha, fun f n hf _ => h f f hf hf⟩

theorem goalC_i (g : STerm) (hn : nodes g ≤ 1000) (hkind : ∀ x ∈ g.kids, nodeOk x = true) {m : List (Int × Int)} {next : Int} {code : List SInstr} {k : Nat} (hb : Sb k (aI m next code)) (hk : k + 2 * nodes g ≤ 100000) :
    TT (fun f _ => M_i_coding_goal f g next code m) (fun r => aI r.2.2 r.1 r.2.1 = goalC (aI m next code) g) := by
  unfold M_i_coding_goal jn
  refine TT.bind (TT.any (fun f _ => cut_i f _) rfl) fun z hz => ?_
  subst hz
  refine TT.cond (fun h => TT.bind (add_i (by have := hb.1; simp only [aI] at this; omega) _ _ _ _ rfl) fun z hz => TT.pure ?_) fun h => ?_
  · subst hz
    simp only [goalC, h, if_true]
    rfl
  · refine goalL_i (J := fun f v__7 v__8 v__9 => Option.bind (M_i_isBuilt f g) fun z__9 => bif z__9 then (Option.bind (M_i_coding_add f (SInstr.mk 12 (g.kids.length : Int) 0 g.name) v__7 v__8 v__9) fun z__8 => some (v__7, z__8, v__9)) else (Option.bind (M_i_coding_add f (SInstr.mk 11 (g.kids.length : Int) 0 g.name) v__7 v__8 v__9) fun z__8 => some (v__7, z__8, v__9))) g hn hkind hb hk fun n' c' m' he => ?_
    have hsb := Sb.putAs g.kids 0 hb
    rw [← he] at hsb
    have hne := nodes_eq g
    have hc : c'.length ≤ 1000000 := by have := hsb.1; simp only [aI] at this; omega
    refine TT.bind (TT.any (fun f _ => built_i f _) rfl) fun z hz => ?_
    subst hz
    refine TT.cond (fun h2 => TT.bind (add_i hc _ _ _ _ rfl) fun z hz => TT.pure ?_) fun h2 => TT.bind (add_i hc _ _ _ _ rfl) fun z hz => TT.pure ?_
    · subst hz
      simp only [goalC, h, h2, if_true, ← he]
      rfl
    · subst hz
      simp only [goalC, h, h2, ← he]
      rfl

theorem body_i (l : List STerm) (hl : l.length ≤ 6) (hall : ∀ g ∈ l, goalOk g = true) {m : List (Int × Int)} {next : Int} {code : List SInstr} {k : Nat} (hb : Sb k (aI m next code)) (hk : k ≤ 10000) :
    TT (fun f _ => M_i_coding_body f l next code m) (fun r => r.1 = (bodyC l (aI m next code)).code) := by
  have hg : ∀ g ∈ l, nodes g ≤ 120 ∧ ∀ x ∈ g.kids, nodeOk x = true := fun g hm => by
    have := hall g hm
    simp only [goalOk, termOk, Bool.and_eq_true, decide_eq_true_eq] at this
    exact ⟨this.1.2, fun x hx => shape_node (shape_kids this.1.1 x hx)⟩
  have hnl : ∀ l' : List STerm, (∀ g ∈ l', nodes g ≤ 120) → nodesL l' ≤ 120 * l'.length := by
    intro l'
    induction l' with
    | nil => intro _; simp [nodesL]
    | cons t ts ih => intro h; have h1 := h t (by simp); have h2 := ih fun g hg => h g (by simp [hg]); simp only [nodesL, List.length_cons]; omega
  unfold M_i_coding_body jn
  refine TT.loop (L := fun f n => L_i_coding_body_1 f l _ n 0 next code m) ?_
  refine TT.forS (σ := Int × List SInstr × List (Int × Int)) (L := fun f n i s => L_i_coding_body_1 f l _ n i s.1 s.2.1 s.2.2) l.length (by omega)
    (fun i s => aI s.2.2 s.1 s.2.1 = (l.take i).foldl goalC (aI m next code)) (fun i s hi hI kk => ?_) (fun s hI => ?_) (next, code, m) (by simp)
  · obtain ⟨n1, c1, m1⟩ := s
    simp only at hI
    simp only [L_i_coding_body_1]
    obtain ⟨y, hy, hy', hm⟩ := listAt hi
    have hsb : Sb (k + 2 * nodesL (l.take i)) (aI m1 n1 c1) := by rw [hI]; exact Sb.goalsC _ hb
    have h1 := hnl (l.take i) fun g hgm => (hg g (List.mem_of_mem_take hgm)).1
    have h2 : (l.take i).length ≤ 6 := by simp; omega
    refine TT.ct (by simp; omega) (TT.guard (by simp) (TT.opt hy (TT.bind (goalC_i y (by have := (hg y hm).1; omega) (hg y hm).2 hsb (by have := (hg y hm).1; omega)) fun z hz => ?_)))
    rw [wrapS hi (by omega)]
    refine kk (z.1, z.2.1, z.2.2) ?_
    rw [take_snoc hy', List.foldl_append, ← hI]
    exact hz
  · obtain ⟨n1, c1, m1⟩ := s
    simp only at hI
    rw [List.take_length] at hI
    have hsb : Sb (k + 2 * nodesL l) (aI m1 n1 c1) := by rw [hI]; exact Sb.goalsC _ hb
    have h1 := hnl l fun g hgm => (hg g hgm).1
    simp only [L_i_coding_body_1]
    refine TT.cf (by simp) (TT.bind (add_i (by have := hsb.1; simp only [aI] at this; omega) _ _ _ _ rfl) fun z hz => TT.pure ?_)
    subst hz
    simp only [bodyC, ← hI]
    rfl

/-- What a valid clause is made of. -/
theorem clause_parts {c : SClause} (h : clauseOk c = true) : (∃ d, shape c.head d = true) ∧ nodes c.head ≤ 120 ∧ c.head.kind = 3 ∧ c.head.kids.length ≤ 4 ∧ (∀ x ∈ c.head.kids, nodeOk x = true) ∧ c.body.length ≤ 6 ∧ ∀ g ∈ c.body, goalOk g = true := by
  simp only [clauseOk, Bool.and_eq_true, decide_eq_true_eq, List.all_eq_true, termOk] at h
  obtain ⟨⟨⟨⟨h1, h2⟩, h3⟩, h4⟩, h5⟩ := h
  have hk : c.head.kind = 3 := by simp only [isPlainT, Bool.and_eq_true, beq_iff_eq] at h3; exact h3.1
  exact ⟨⟨_, h1⟩, h2, hk, (node_struct (shape_node h1) hk).2.2, fun x hx => shape_node (shape_kids h1 x hx), h4, h5⟩

theorem compile_i (c : SClause) (h : clauseOk c = true) : TT (fun f _ => M_i_compileClause f c) (· = codeC c) := by
  obtain ⟨_, h2, h3, h4, h5, h6, h7⟩ := clause_parts h
  have hne := nodes_eq c.head
  unfold M_i_compileClause
  refine TT.bind (TT.any (fun _ _ => rfl) rfl) fun z hz => ?_
  subst hz
  refine TT.bind (head_i _ h4 (by omega) h5) fun z hz => ?_
  have hsb : Sb 1000 (headC c.head.kids) := by
    obtain ⟨k1, k2⟩ := Sb.headAs c.head.kids (p := (start, [])) (k := 4) 0 ⟨by simp [start], by simp [start], by simp [start]⟩
    simp only [pq] at k2
    exact (Sb.headQ _ k1).le (by omega)
  refine TT.bind (body_i _ h6 h7 (m := z.2.2) (next := z.1) (code := z.2.1) (k := 1000) (by rw [hz]; exact hsb) (by omega)) fun w hw => TT.pure ?_
  rw [hw, hz]
  rfl

end Go.Am
