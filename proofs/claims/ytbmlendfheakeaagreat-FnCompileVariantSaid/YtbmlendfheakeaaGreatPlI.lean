/-
  Plain Lean: the program's code of a clause.
-/
import Derived.Test.YtbmlendfheakeaaGreatPlK
namespace Go.Am
open Go.Proofs
set_option linter.unusedVariables false

theorem tfind_tset {α : Type} (k n : Int) (v : α) : ∀ m : List (Int × α), tfind k (tset n v m) = if k = n then some v else tfind k m
  | [] => by
    simp only [tset, tfind]
    by_cases h : k = n
    · simp [h]
    · have : (k == n) = false := by simpa using h
      simp [h, this]
  | (a, b) :: r => by
    simp only [tset]
    cases hn : n == a with
    | true =>
      have : n = a := by simpa using hn
      subst this
      simp only [cond_true, tfind]
      by_cases h : k = n
      · simp [h]
      · have : (k == n) = false := by simpa using h
        simp [h, this]
    | false =>
      have hna : ¬ n = a := by simpa using hn
      simp only [cond_false, tfind]
      cases hk : k == a with
      | true =>
        have : k = a := by simpa using hk
        subst this
        simp only [cond_true]
        rw [if_neg (Ne.symm hna)]
      | false => simp only [cond_false]; exact tfind_tset k n v r

def aI (m : List (Int × Int)) (next : Int) (code : List SInstr) : CS := ⟨fun k => tfind k m, next, code⟩
theorem aI_bind (m : List (Int × Int)) (next : Int) (code : List SInstr) (n v : Int) : aI (tset n v m) next code = (aI m next code).bindv n v := by
  simp only [aI, CS.bindv]
  congr 1
  funext k
  exact tfind_tset k n v m

theorem add_i {code : List SInstr} (h : code.length ≤ 1000000) (x : SInstr) (n : Int) (m : List (Int × Int)) (P : List SInstr → Prop) (hP : P (code ++ [x])) : TT (fun f _ => M_i_coding_add f x n code m) P := by
  unfold M_i_coding_add
  exact TT.guard (by simp; omega) (TT.pure hP)
theorem slot_i {n : Int} (h0 : 0 ≤ n) (h1 : n ≤ 1000000) (code : List SInstr) (m : List (Int × Int)) (P : Int × Int → Prop) (hP : P (n, n + 1)) : TT (fun f _ => M_i_coding_slot f n code m) P := by
  unfold M_i_coding_slot
  rw [wrap_id (x := n + 1) (by omega) (by omega), wrap_id (x := n + 1 - 1) (by omega) (by omega)]
  exact TT.pure (by rw [Int.add_sub_cancel]; exact hP)

theorem described_i (t : STerm) {m : List (Int × Int)} {next : Int} {code : List SInstr} {k : Nat} (hb : Sb k (aI m next code)) (hk : k ≤ 1000000) : TT (fun f _ => M_i_coding_described f t next code m) (fun r => aI r.2.2 r.1 r.2.1 = arg1 (aI m next code) t) := by
  obtain ⟨b1, b2, b3⟩ := hb
  simp only [aI] at b1 b2 b3
  unfold M_i_coding_described
  refine TT.cond (fun h => TT.bind (add_i (by omega) _ _ _ _ rfl) fun z hz => TT.pure ?_) fun h => TT.cond (fun h2 => TT.bind (add_i (by omega) _ _ _ _ rfl) fun z hz => TT.pure ?_) fun h2 => ?_
  · subst hz
    have e : t.kind = 2 := by simpa using h
    simp [arg1, e, aI, CS.emit]
  · subst hz
    have e : ¬ t.kind = 2 := by simpa using h
    obtain ⟨v, hv⟩ := Option.isSome_iff_exists.1 h2
    simp [arg1, e, aI, CS.emit, hv]
  · have e : ¬ t.kind = 2 := by simpa using h
    have hv : tfind t.n m = none := by simpa using h2
    refine TT.bind (slot_i b2 (by omega) _ _ (· = (next, next + 1)) rfl) fun z hz => ?_
    subst hz
    refine TT.bind (add_i (by omega) _ _ _ _ rfl) fun z hz => TT.pure ?_
    subst hz
    have hf : tfind t.n (tset t.n next m) = some next := by rw [tfind_tset, if_pos rfl]
    simp only [hf, Option.getD_some, aI_bind]
    have ha : (aI m next code).sl t.n = none := hv
    simp only [arg1, if_neg e, ha]
    rfl

/-- The arguments of a structure of the row. -/
theorem headQ2_i (x : Sleft) (hx : x.t.kids.length ≤ 1000) {q : List Sleft} (hq : q.length ≤ 1000000) {m : List (Int × Int)} {next : Int} {code : List SInstr} {k : Nat} (hb : Sb k (aI m next code)) (hk : k + x.t.kids.length ≤ 1000000) {Q : Int × List SInstr × List (Int × Int) → Prop}
    {J : Nat → Nat → List Sleft → List (Int × Int) → Int → List SInstr → Option (Int × List SInstr × List (Int × Int))}
    (hJ : ∀ q' m' next' code', (aI m' next' code', q') = argHs x.t.kids (aI m next code, q) → TT (fun f n => J f n q' m' next' code') Q) : TT (fun f n => L_i_coding_head_2 f x (J f n) f q 0 m next code) Q := by
  refine T3.loop (L := fun f n c => L_i_coding_head_2 f x (J f n) c q 0 m next code) ?_
  refine T3.forS (σ := List Sleft × List (Int × Int) × Int × List SInstr) (L := fun f n c i s => L_i_coding_head_2 f x (J f n) c s.1 i s.2.1 s.2.2.1 s.2.2.2) x.t.kids.length (by omega)
    (fun i s => (aI s.2.1 s.2.2.1 s.2.2.2, s.1) = argHs (x.t.kids.take i) (aI m next code, q) ∧ s.1.length ≤ q.length + i) (fun i s hi hI kk => ?_) (fun s hI => ?_) (q, m, next, code) ⟨by simp [argHs], by simp⟩
  · obtain ⟨q1, m1, n1, c1⟩ := s
    obtain ⟨hI, hl⟩ := hI
    simp only at hI hl
    simp only [L_i_coding_head_2, jn]
    obtain ⟨y, hy, hy', hm⟩ := listAt hi
    have hsn : x.t.kids.take (i + 1) = x.t.kids.take i ++ [y] := by rw [List.take_add_one, hy']; rfl
    have hsb : Sb (k + i) (aI m1 n1 c1) := by
      have := (Sb.argHs (x.t.kids.take i) (p := (aI m next code, q)) hb).1
      rw [← hI] at this
      exact this.le (by simp; omega)
    have hstep : argHs (x.t.kids.take (i + 1)) (aI m next code, q) = argH (aI m1 n1 c1, q1) y := by rw [hsn, argHs_snoc, ← hI]
    refine T3.ct (by simp; omega) (T3.guard (by simp) (T3.opt hy (T3.cond (fun h => ?_) fun h => ?_)))
    · have e : ¬ y.kind = 3 := by simpa using h
      refine T3.bind (described_i y hsb (by omega)) fun z hz => ?_
      rw [wrapS hi (by omega)]
      refine kk (q1, z.2.2, z.1, z.2.1) ⟨?_, by simp only; omega⟩
      rw [hstep]
      simp only [argH, if_neg e, hz]
    · have e : y.kind = 3 := by simpa using h
      obtain ⟨b1, b2, b3⟩ := hsb
      simp only [aI] at b1 b2 b3
      refine T3.bind (slot_i b2 (by omega) _ _ (· = (n1, n1 + 1)) rfl) fun z hz => ?_
      subst hz
      refine T3.bind (add_i (by omega) _ _ _ _ rfl) fun z hz => T3.guard (by simp; omega) ?_
      subst hz
      rw [wrapS hi (by omega)]
      refine kk (q1 ++ [⟨y, n1⟩], m1, n1 + 1, c1 ++ [⟨4, n1, 0, noName⟩]) ⟨?_, by simp; omega⟩
      rw [hstep]
      simp only [argH, if_pos e]
      rfl
  · obtain ⟨q1, m1, n1, c1⟩ := s
    obtain ⟨hI, hl⟩ := hI
    simp only at hI
    rw [List.take_length] at hI
    simp only [L_i_coding_head_2, jn]
    exact T3.cf (by simp) (T3.of (hJ q1 m1 n1 c1 hI))

theorem len_qn : ∀ q : List Sleft, q.length ≤ qn q
  | [] => by simp [qn]
  | x :: q => by have := len_qn q; have := nodes_pos x.t; simp only [List.length_cons, qn]; omega

theorem kids_le {t : STerm} : t.kids.length ≤ nodes t := by
  have := len_nodes t.kids
  rw [nodes_eq]; omega

/-- The row is worked off. -/
theorem headQ_i : ∀ s : List Sleft × Int × List SInstr × List (Int × Int), (qn s.1 ≤ 1000 ∧ ∃ k, Sb k (aI s.2.2.2 s.2.1 s.2.2.1) ∧ k + pq s.1 ≤ 100000) →
    ∀ {Q : Int × List SInstr × List (Int × Int) → Prop}, (∀ r, aI r.2.2 r.1 r.2.1 = headQ s.1 (aI s.2.2.2 s.2.1 s.2.2.1) → Q r) → TT (fun f n => L_i_coding_head_1 f n s.1 s.2.1 s.2.2.1 s.2.2.2) Q := by
  intro s0 hs0 Q hQ
  refine TT.ind (L := fun f n (s : List Sleft × Int × List SInstr × List (Int × Int)) => L_i_coding_head_1 f n s.1 s.2.1 s.2.2.1 s.2.2.2) (fun s => qn s.1) (fun s => qn s.1 ≤ 1000 ∧ (∃ k, Sb k (aI s.2.2.2 s.2.1 s.2.2.1) ∧ k + pq s.1 ≤ 100000) ∧ headQ s.1 (aI s.2.2.2 s.2.1 s.2.2.1) = headQ s0.1 (aI s0.2.2.2 s0.2.1 s0.2.2.1)) (fun s hs rec => ?_) s0 ⟨hs0.1, hs0.2, rfl⟩
  obtain ⟨q, n0, c0, m0⟩ := s
  obtain ⟨h1, ⟨k, h2, h3⟩, h4⟩ := hs
  simp only at h1 h2 h3 h4
  simp only [L_i_coding_head_1, jn]
  cases q with
  | nil =>
    rw [headQ] at h4
    exact TT.cf (by simp) (TT.pure (hQ _ h4))
  | cons x r =>
    have hlq := len_qn (x :: r)
    have hkl : x.t.kids.length ≤ nodes x.t := kids_le
    simp only [qn] at h1 hlq
    simp only [pq] at h3
    have hnp := nodes_pos x.t
    refine TT.ct (by simp <;> omega) (TT.opt (b := x) (by rfl) (TT.guard (by simp) (TT.bind (add_i (by have := h2.1; simp only [aI] at this; omega) _ _ _ _ rfl) fun z hz => ?_)))
    subst hz
    have hb1 : Sb (k + 1) (aI m0 n0 (c0 ++ [⟨3, (x.t.kids.length : Int), x.slot, x.t.name⟩])) := h2.emit _
    have hr : r.length ≤ 1000 := by have := len_qn r; omega
    have hq := qn_argH x.t.kids (aI m0 n0 (c0 ++ [⟨3, (x.t.kids.length : Int), x.slot, x.t.name⟩]), r)
    obtain ⟨hs1, hs2⟩ := Sb.argHs x.t.kids (p := (aI m0 n0 (c0 ++ [⟨3, (x.t.kids.length : Int), x.slot, x.t.name⟩]), r)) hb1
    have hn := nodes_eq x.t
    refine headQ2_i (J := fun f n v__h v__i v__j v__k => L_i_coding_head_1 f n v__h v__j v__k v__i) x (by omega) (q := r) (by omega) hb1 (by omega) fun q' m' n' c' he => rec (q', n', c', m') ⟨?_, ⟨k + 1 + x.t.kids.length, ?_, ?_⟩, ?_⟩ ?_
    · rw [← he] at hq; simp only at hq ⊢; omega
    · rw [← he] at hs1; exact hs1
    · rw [← he] at hs2; simp only at hs2 ⊢; omega
    · rw [headQ] at h4
      rw [← h4]
      simp only
      have e : argHs x.t.kids ((aI m0 n0 c0).emit ⟨3, (x.t.kids.length : Int), x.slot, x.t.name⟩, r) = (aI m' n' c', q') := he.symm
      rw [e]
    · rw [← he] at hq; simp only [qn] at hq ⊢; omega

/-- A head's own arguments. -/
theorem headAs_i (ks : List STerm) (hks : ks.length ≤ 1000) (hkind : ∀ t ∈ ks, nodeOk t = true) {next : Int} {m : List (Int × Int)} {code : List SInstr} {k : Nat} (hb : Sb k (aI m next code)) (hk : k + ks.length ≤ 100000) {Q : Int × List SInstr × List (Int × Int) → Prop}
    {J : Nat → List Sleft → List SInstr → List (Int × Int) → Option (Int × List SInstr × List (Int × Int))} (hJ : ∀ q' c' m', (aI m' next c', q') = headAs ks 0 (aI m next code, []) → TT (fun f _ => J f q' c' m') Q) :
    TT (fun f _ => L_i_coding_head_3 f ks next (J f) f [] 0 code m) Q := by
  have snoc : ∀ (l : List STerm) (x : STerm) (i : Nat) (p : CS × List Sleft), headAs (l ++ [x]) i p = headA (headAs l i p) ((i + l.length : Nat) : Int) x := by
    intro l
    induction l with
    | nil => intro x i p; rfl
    | cons t ts ih => intro x i p; simp only [List.cons_append, headAs, ih, List.length_cons]; congr 1; omega
  refine TT.loop (L := fun f n => L_i_coding_head_3 f ks next (J f) n [] 0 code m) ?_
  refine TT.forS (σ := List Sleft × List SInstr × List (Int × Int)) (L := fun f n i s => L_i_coding_head_3 f ks next (J f) n s.1 i s.2.1 s.2.2) ks.length (by omega)
    (fun i s => (aI s.2.2 next s.2.1, s.1) = headAs (ks.take i) 0 (aI m next code, []) ∧ s.1.length ≤ i) (fun i s hi hI kk => ?_) (fun s hI => ?_) ([], code, m) ⟨by simp [headAs], by simp⟩
  · obtain ⟨q1, c1, m1⟩ := s
    obtain ⟨hI, hl⟩ := hI
    simp only at hI hl
    simp only [L_i_coding_head_3, jn]
    obtain ⟨y, hy, hy', hm⟩ := listAt hi
    have hsn : ks.take (i + 1) = ks.take i ++ [y] := by rw [List.take_add_one, hy']; rfl
    have hsb : Sb (k + i) (aI m1 next c1) := by
      have := (Sb.headAs (ks.take i) (p := (aI m next code, [])) 0 hb).1
      rw [← hI] at this
      exact this.le (by simp; omega)
    have hlen : (ks.take i).length = i := by simp; omega
    have hstep : headAs (ks.take (i + 1)) 0 (aI m next code, []) = headA (aI m1 next c1, q1) (i : Int) y := by rw [hsn, snoc, ← hI, hlen, Nat.zero_add]
    obtain ⟨b1, b2, b3⟩ := hsb
    simp only [aI] at b1 b2 b3
    refine TT.ct (by simp; omega) (TT.guard (by simp) (TT.opt hy (TT.cond (fun h => ?_) fun h => TT.cond (fun h2 => TT.cond (fun h3 => ?_) fun h3 => ?_) fun h2 => ?_)))
    · have e : y.kind = 2 := by simpa using h
      refine TT.bind (add_i (by omega) _ _ _ _ rfl) fun z hz => ?_
      subst hz
      rw [wrapS hi (by omega)]
      refine kk (q1, _, m1) ⟨?_, by simp only; omega⟩
      rw [hstep]
      simp only [headA, if_pos e]
      rfl
    · have e : y.kind = 1 := by simpa using h2
      obtain ⟨v, hv⟩ := Option.isSome_iff_exists.1 h3
      refine TT.bind (add_i (by omega) _ _ _ _ rfl) fun z hz => ?_
      subst hz
      rw [wrapS hi (by omega)]
      refine kk (q1, _, m1) ⟨?_, by simp only; omega⟩
      rw [hstep]
      have hs : (aI m1 next c1).sl y.n = some v := hv
      simp only [headA, if_neg (show ¬ y.kind = 2 by omega), if_pos e, hs, hv, Option.getD_some]
      rfl
    · have e : y.kind = 1 := by simpa using h2
      have hv : tfind y.n m1 = none := by simpa using h3
      rw [wrapS hi (by omega)]
      refine kk (q1, c1, _) ⟨?_, by simp only; omega⟩
      rw [hstep]
      have hs : (aI m1 next c1).sl y.n = none := hv
      simp only [headA, if_neg (show ¬ y.kind = 2 by omega), if_pos e, hs, aI_bind]
    · have e2 : ¬ y.kind = 2 := by simpa using h
      have e1 : ¬ y.kind = 1 := by simpa using h2
      refine TT.guard (by simp; omega) ?_
      rw [wrapS hi (by omega)]
      refine kk (q1 ++ [⟨y, (i : Int)⟩], c1, m1) ⟨?_, by simp; omega⟩
      rw [hstep]
      simp only [headA, if_neg e1, if_neg e2]
  · obtain ⟨q1, c1, m1⟩ := s
    obtain ⟨hI, hl⟩ := hI
    simp only at hI
    rw [List.take_length] at hI
    simp only [L_i_coding_head_3, jn]
    refine TT.cf (by simp) ?_
    obtain ⟨N, a, ha, h⟩ := hJ q1 c1 m1 hI
    exact ⟨N, a, ha, fun f n hf _ => h f f hf hf⟩

theorem head_i (ks : List STerm) (hks : ks.length ≤ 4) (hn : nodesL ks ≤ 1000) (hkind : ∀ t ∈ ks, nodeOk t = true) : TT (fun f _ => M_i_coding_head f ks 4 [] []) (fun r => aI r.2.2 r.1 r.2.1 = headC ks) := by
  unfold M_i_coding_head jn
  have hb : Sb 4 (aI [] 4 []) := ⟨by simp [aI], by simp [aI], by simp [aI]⟩
  have hst : start = aI [] 4 [] := rfl
  refine headAs_i (J := fun f v__s v__t v__u => L_i_coding_head_1 f f v__s 4 v__t v__u) ks (by omega) hkind hb (by omega) fun q' c' m' he => ?_
  obtain ⟨h1, h2⟩ := Sb.headAs ks (p := (aI [] 4 [], [])) 0 hb
  have hqn : qn q' ≤ 1000 := by
    have : ∀ (l : List STerm) (i : Nat) (p : CS × List Sleft), qn (headAs l i p).2 ≤ qn p.2 + nodesL l := by
      intro l
      induction l with
      | nil => intro i p; simp [headAs, nodesL]
      | cons t ts ih =>
        intro i p
        have := ih (i + 1) (headA p (i : Int) t)
        have h3 : qn (headA p (i : Int) t).2 ≤ qn p.2 + nodes t := by
          unfold headA
          split
          · simp only; omega
          · split
            · split <;> simp only <;> omega
            · simp only [qn_append, qn]; omega
        simp only [headAs, nodesL]; omega
    have h4 := this ks 0 (aI [] 4 [], [])
    rw [← he] at h4
    simp only [qn] at h4; omega
  rw [← he] at h1 h2
  simp only [pq] at h2
  refine TT.loop (L := fun f n => L_i_coding_head_1 f n q' 4 c' m') (headQ_i (q', 4, c', m') ⟨hqn, _, h1, by simp only; omega⟩ fun r hr => ?_)
  rw [hr, headC, hst, ← he]

end Go.Am
