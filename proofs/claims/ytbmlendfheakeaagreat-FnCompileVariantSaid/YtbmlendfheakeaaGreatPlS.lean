/-
  Plain Lean: the reference's code of a clause.
-/
import Derived.Test.YtbmlendfheakeaaGreatPlJ
namespace Go.Am
open Go.Proofs
set_option linter.unusedVariables false

def aS (m : Sl8Maker) : CS := ⟨fun k => if 0 ≤ k ∧ k ≤ 25 then (match m.slots[k.toNat]? with | some v => if 0 ≤ v then some v else none | none => none) else none, m.next, m.code⟩
def WfS (m : Sl8Maker) : Prop := m.slots.length = 26
theorem aS_bind {m : Sl8Maker} (hm : WfS m) {n v : Int} (h0 : 0 ≤ n) (h1 : n ≤ 25) (hv : 0 ≤ v) : aS ⟨m.slots.set n.toNat v, m.next, m.code⟩ = (aS m).bindv n v := by
  simp only [aS, CS.bindv]
  congr 1
  funext k
  by_cases hk : k = n
  · subst hk
    rw [if_pos rfl, if_pos ⟨h0, h1⟩, List.getElem?_set_self (by unfold WfS at hm; omega)]
    simp [hv]
  · rw [if_neg hk]
    by_cases hr : 0 ≤ k ∧ k ≤ 25
    · rw [if_pos hr, if_pos hr, List.getElem?_set_ne (by omega)]
    · rw [if_neg hr, if_neg hr]
theorem aS_at {m : Sl8Maker} (hm : WfS m) {n : Int} (h0 : 0 ≤ n) (h1 : n ≤ 25) : ∃ w, m.slots[n.toNat]? = some w ∧ (aS m).sl n = if 0 ≤ w then some w else none := by
  have hlt : n.toNat < m.slots.length := by unfold WfS at hm; omega
  refine ⟨m.slots[n.toNat], List.getElem?_eq_getElem hlt, ?_⟩
  simp only [aS]
  rw [if_pos ⟨h0, h1⟩, List.getElem?_eq_getElem hlt]

theorem emit_s {m : Sl8Maker} (h : m.code.length ≤ 1000000) (x : SInstr) (P : Sl8Maker → Prop) (hP : P ⟨m.slots, m.next, m.code ++ [x]⟩) : TT (fun f _ => M_s_l8Emit f m x) P := by
  unfold M_s_l8Emit
  exact TT.guard (by simp; omega) (TT.guard (by simp; omega) (TT.pure (by simpa using hP)))
theorem slot_s {m : Sl8Maker} (hm : WfS m) {n : Int} (h0 : 0 ≤ n) (h1 : n ≤ 25) (v : Int) (P : Sl8Maker → Prop) (hP : P ⟨m.slots.set n.toNat v, m.next, m.code⟩) : TT (fun f _ => M_s_l8Slot f m n v) P := by
  unfold WfS at hm
  unfold M_s_l8Slot
  exact TT.guard (by simp; omega) (TT.guard (by simp; omega) (TT.guard (by simpa using h0) (TT.opt (b := m.slots[n.toNat]'(by omega)) (by simp) (TT.pure (by simpa using hP)))))

theorem argHs_shift : ∀ (ks : List STerm) (s : CS) (q : List Sleft), argHs ks (s, q) = ((argHs ks (s, [])).1, q ++ (argHs ks (s, [])).2)
  | [], s, q => by simp [argHs]
  | t :: ts, s, q => by
    simp only [argHs, argH]
    split
    · rw [argHs_shift ts _ (q ++ _), argHs_shift ts _ ([] ++ _)]
      simp
    · exact argHs_shift ts _ q

theorem args_s (ks : List STerm) (hks : ks.length ≤ 1000) (hno : ∀ t ∈ ks, nodeOk t = true) {m : Sl8Maker} (hm : WfS m) {k : Nat} (hb : Sb k (aS m)) (hk : k + ks.length ≤ 1000000) :
    TT (fun f _ => M_s_l8Args f m ks) (fun r => WfS r.1 ∧ (aS r.1, r.2) = argHs ks (aS m, [])) := by
  unfold M_s_l8Args jn
  refine TT.loop (L := fun f n => L_s_l8Args_1 f ks _ n [] 0 m.slots m.next m.code) ?_
  refine TT.forS (σ := List Sleft × List Int × Int × List SInstr) (L := fun f n i s => L_s_l8Args_1 f ks _ n s.1 i s.2.1 s.2.2.1 s.2.2.2) ks.length (by omega)
    (fun i s => WfS ⟨s.2.1, s.2.2.1, s.2.2.2⟩ ∧ (aS ⟨s.2.1, s.2.2.1, s.2.2.2⟩, s.1) = argHs (ks.take i) (aS m, []) ∧ s.1.length ≤ i) (fun i s hi hI kk => ?_) (fun s hI => ?_) ([], m.slots, m.next, m.code) ⟨hm, by simp [argHs], by simp⟩
  · obtain ⟨q1, s1, n1, c1⟩ := s
    obtain ⟨hw, hI, hl⟩ := hI
    simp only at hw hI hl
    simp only [L_s_l8Args_1, jn]
    obtain ⟨y, hy, hy', hym⟩ := listAt hi
    have hsb : Sb (k + i) (aS ⟨s1, n1, c1⟩) := by
      have := (Sb.argHs (ks.take i) (p := (aS m, [])) hb).1
      rw [← hI] at this
      exact this.le (by simp; omega)
    have hstep : argHs (ks.take (i + 1)) (aS m, []) = argH (aS ⟨s1, n1, c1⟩, q1) y := by rw [take_snoc hy', argHs_snoc, ← hI]
    obtain ⟨b1, b2, b3⟩ := hsb
    simp only [aS] at b1 b2 b3
    refine TT.ct (by simp; omega) (TT.guard (by simp) (TT.opt hy (TT.cond (fun h => ?_) fun h => TT.cond (fun h2 => ?_) fun h2 => TT.cf rfl (TT.cf h2 ?_))))
    · have e : y.kind = 2 := by simpa using h
      refine TT.bind (emit_s (m := ⟨s1, n1, c1⟩) (by simp only; omega) _ _ rfl) fun z hz => ?_
      subst hz
      rw [wrapS hi (by omega)]
      refine kk (q1, s1, n1, _) ⟨hw, ?_, by simp only; omega⟩
      rw [hstep]
      simp only [argH, if_neg (show ¬ y.kind = 3 by omega), arg1, if_pos e]
      rfl
    · have e : y.kind = 1 := by simpa using h2
      obtain ⟨v1, v2, _, _⟩ := node_var (hno y hym) e
      obtain ⟨w, hw1, hw2⟩ := aS_at hw v1 v2
      simp only at hw1
      refine TT.guard (by simpa using v1) (TT.opt hw1 (TT.cond (fun h3 => ?_) fun h3 => TT.ct h2 ?_))
      · have hp : 0 ≤ w := by simpa using h3
        refine TT.guard (by simpa using v1) (TT.opt hw1 (TT.bind (emit_s (m := ⟨s1, n1, c1⟩) (by simp only; omega) _ _ rfl) fun z hz => ?_))
        subst hz
        rw [wrapS hi (by omega)]
        refine kk (q1, s1, n1, _) ⟨hw, ?_, by simp only; omega⟩
        rw [hstep]
        simp only [argH, if_neg (show ¬ y.kind = 3 by omega), arg1, if_neg (show ¬ y.kind = 2 by omega), hw2, if_pos hp]
        rfl
      · have hp : ¬ 0 ≤ w := by simpa using h3
        refine TT.bind (slot_s hw v1 v2 _ _ rfl) fun z hz => ?_
        subst hz
        refine TT.bind (emit_s (m := ⟨s1.set y.n.toNat n1, n1, c1⟩) (by simp only; omega) _ _ rfl) fun z hz => ?_
        subst hz
        rw [wrapS hi (by omega), wrap_id (by simp only; omega) (by simp only; omega)]
        have hb := aS_bind hw v1 v2 (v := n1) b2
        refine kk (q1, s1.set y.n.toNat n1, n1 + 1, c1 ++ [⟨4, n1, 0, noName⟩]) ⟨by unfold WfS at hw ⊢; simpa using hw, ?_, by simp only; omega⟩
        rw [hstep]
        simp only [argH, if_neg (show ¬ y.kind = 3 by omega), arg1, if_neg (show ¬ y.kind = 2 by omega), hw2, if_neg hp]
        have : aS ⟨s1.set y.n.toNat n1, n1 + 1, c1 ++ [⟨4, n1, 0, noName⟩]⟩ = ((aS ⟨s1.set y.n.toNat n1, n1, c1⟩).inc).emit ⟨4, n1, 0, noName⟩ := rfl
        simp only at hb ⊢
        rw [this, hb]
        rfl
    · have e1 : ¬ y.kind = 1 := by simpa using h2
      have e2 : ¬ y.kind = 2 := by simpa using h
      have e3 : y.kind = 3 := by rcases node_kind (hno y hym) with h | h | h <;> first | exact absurd h e1 | exact absurd h e2 | exact h
      refine TT.guard (by simp; omega) (TT.bind (emit_s (m := ⟨s1, n1, c1⟩) (by simp only; omega) _ _ rfl) fun z hz => ?_)
      subst hz
      rw [wrapS hi (by omega), wrap_id (by simp only; omega) (by simp only; omega)]
      refine kk (q1 ++ [⟨y, n1⟩], s1, n1 + 1, c1 ++ [⟨4, n1, 0, noName⟩]) ⟨hw, ?_, by simp; omega⟩
      rw [hstep]
      simp only [argH, if_pos e3]
      rfl
  · obtain ⟨q1, s1, n1, c1⟩ := s
    obtain ⟨hw, hI, hl⟩ := hI
    simp only at hw hI
    rw [List.take_length] at hI
    simp only [L_s_l8Args_1, jn]
    exact TT.cf (by simp) (TT.pure ⟨hw, hI⟩)

theorem sn_headAs : ∀ (l : List STerm) (x : STerm) (i : Nat) (p : CS × List Sleft), headAs (l ++ [x]) i p = headA (headAs l i p) ((i + l.length : Nat) : Int) x := by
  intro l
  induction l with
  | nil => intro x i p; rfl
  | cons t ts ih => intro x i p; simp only [List.cons_append, headAs, ih, List.length_cons]; congr 1; omega
theorem qn_headAs : ∀ (l : List STerm) (i : Nat) (p : CS × List Sleft), qn (headAs l i p).2 ≤ qn p.2 + nodesL l := by
  intro l
  induction l with
  | nil => intro i p; simp [headAs, nodesL]
  | cons t ts ih =>
    intro i p
    have := ih (i + 1) (headA p (i : Int) t)
    have h3 : qn (headA p (i : Int) t).2 ≤ qn p.2 + nodes t := by
      unfold headA
      split
      · simp only; omega
      · split
        · split <;> simp only <;> omega
        · simp only [qn_append, qn]; omega
    simp only [headAs, nodesL]; omega

/-- All structures of a row, and what they are made of, are of known kinds. -/
def Okq (q : List Sleft) : Prop := ∀ x ∈ q, ∃ d, shape x.t d = true
theorem Okq.args : ∀ (ks : List STerm) (d : Nat), (∀ t ∈ ks, shape t d = true) → ∀ (p : CS × List Sleft), Okq p.2 → Okq (argHs ks p).2
  | [], _, _, p, h => h
  | t :: ts, d, hs, p, h => by
    simp only [argHs]
    refine Okq.args ts d (fun x hx => hs x (by simp [hx])) _ ?_
    unfold argH
    split
    · intro x hx
      rcases List.mem_append.1 hx with hx | hx
      · exact h x hx
      · rw [List.mem_singleton.1 hx]; exact ⟨d, hs t (by simp)⟩
    · exact h

theorem headQ_s : ∀ s : List Sleft × Int × List Int × Int × List SInstr, (0 ≤ s.2.1 ∧ s.2.1.toNat ≤ s.1.length ∧ WfS ⟨s.2.2.1, s.2.2.2.1, s.2.2.2.2⟩ ∧ Okq (s.1.drop s.2.1.toNat) ∧ s.2.1.toNat + qn (s.1.drop s.2.1.toNat) ≤ 1000 ∧ ∃ k, Sb k (aS ⟨s.2.2.1, s.2.2.2.1, s.2.2.2.2⟩) ∧ k + pq (s.1.drop s.2.1.toNat) ≤ 100000) →
    ∀ {Q : Sl8Maker → Prop}, (∀ r, WfS r → aS r = headQ (s.1.drop s.2.1.toNat) (aS ⟨s.2.2.1, s.2.2.2.1, s.2.2.2.2⟩) → Q r) →
    TT (fun f n => L_s_l8Head_1 f (fun v__j v__k v__l => some ((Sl8Maker.mk v__j v__k v__l))) n s.1 s.2.1 s.2.2.1 s.2.2.2.1 s.2.2.2.2) Q := by
  intro s0 hs0 Q hQ
  refine TT.ind (L := fun f n (s : List Sleft × Int × List Int × Int × List SInstr) => L_s_l8Head_1 f (fun v__j v__k v__l => some ((Sl8Maker.mk v__j v__k v__l))) n s.1 s.2.1 s.2.2.1 s.2.2.2.1 s.2.2.2.2) (fun s => qn (s.1.drop s.2.1.toNat))
    (fun s => (0 ≤ s.2.1 ∧ s.2.1.toNat ≤ s.1.length ∧ WfS ⟨s.2.2.1, s.2.2.2.1, s.2.2.2.2⟩ ∧ Okq (s.1.drop s.2.1.toNat) ∧ s.2.1.toNat + qn (s.1.drop s.2.1.toNat) ≤ 1000 ∧ ∃ k, Sb k (aS ⟨s.2.2.1, s.2.2.2.1, s.2.2.2.2⟩) ∧ k + pq (s.1.drop s.2.1.toNat) ≤ 100000) ∧
      headQ (s.1.drop s.2.1.toNat) (aS ⟨s.2.2.1, s.2.2.2.1, s.2.2.2.2⟩) = headQ (s0.1.drop s0.2.1.toNat) (aS ⟨s0.2.2.1, s0.2.2.2.1, s0.2.2.2.2⟩)) (fun s hs rec => ?_) s0 ⟨hs0, rfl⟩
  obtain ⟨w, i, sl, n0, c0⟩ := s
  obtain ⟨⟨h1, h2, hw, hok, h3, k, h4, h5⟩, h6⟩ := hs
  simp only at h1 h2 hw hok h3 h4 h5 h6
  simp only [L_s_l8Head_1]
  by_cases hlt : i.toNat < w.length
  · have hx : w[i.toNat]? = some w[i.toNat] := List.getElem?_eq_getElem hlt
    have hdrop : w.drop i.toNat = w[i.toNat] :: w.drop (i.toNat + 1) := List.drop_eq_getElem_cons hlt
    generalize hxx : w[i.toNat] = x at hx hdrop
    rw [hdrop] at hok h3 h5 h6
    simp only [qn] at h3
    simp only [pq] at h5
    obtain ⟨d, hd⟩ := hok x (by simp)
    have hnp := nodes_pos x.t
    have hkl : x.t.kids.length ≤ nodes x.t := kids_le
    have hne := nodes_eq x.t
    refine TT.ct (by simp; omega) (TT.guard (by simpa using h1) (TT.opt hx (TT.bind (emit_s (m := ⟨sl, n0, c0⟩) (by have := h4.1; simp only [aS] at this ⊢; omega) _ _ rfl) fun z hz => ?_)))
    subst hz
    have hb1 : Sb (k + 1) (aS ⟨sl, n0, c0 ++ [⟨3, (x.t.kids.length : Int), x.slot, x.t.name⟩]⟩) := h4.emit _
    refine TT.bind (args_s x.t.kids (by omega) (fun y hy => shape_node (shape_kids hd y hy)) (m := ⟨sl, n0, c0 ++ [⟨3, (x.t.kids.length : Int), x.slot, x.t.name⟩]⟩) hw hb1 (by omega)) fun z ⟨hz1, hz2⟩ => ?_
    have hq := qn_argH x.t.kids (aS ⟨sl, n0, c0 ++ [⟨3, (x.t.kids.length : Int), x.slot, x.t.name⟩]⟩, [])
    obtain ⟨hs1, hs2⟩ := Sb.argHs x.t.kids (p := (aS ⟨sl, n0, c0 ++ [⟨3, (x.t.kids.length : Int), x.slot, x.t.name⟩]⟩, [])) hb1
    have hoka := Okq.args x.t.kids (d - 1) (shape_kids hd) (aS ⟨sl, n0, c0 ++ [⟨3, (x.t.kids.length : Int), x.slot, x.t.name⟩]⟩, []) (fun y hy => by cases hy)
    have hsh := argHs_shift x.t.kids (aS ⟨sl, n0, c0 ++ [⟨3, (x.t.kids.length : Int), x.slot, x.t.name⟩]⟩) (w.drop (i.toNat + 1))
    rw [← hz2] at hq hs1 hs2 hoka hsh
    simp only [qn, pq] at hq hs2
    have hlw : (w.drop (i.toNat + 1)).length ≤ qn (w.drop (i.toNat + 1)) := len_qn _
    have hlz : z.2.length ≤ qn z.2 := len_qn _
    have hwl : w.length ≤ 1001 := by simp at hlw; omega
    refine TT.guard (by simp; omega) ?_
    have hi1 : (i + 1).toNat = i.toNat + 1 := by omega
    have hd2 : (w ++ z.2).drop (i.toNat + 1) = w.drop (i.toNat + 1) ++ z.2 := by rw [List.drop_append_of_le_length (by omega)]
    rw [wrap_id (by omega) (by omega)]
    refine rec (w ++ z.2, i + 1, z.1.slots, z.1.next, z.1.code) ⟨⟨by simp only; omega, by simp; omega, hz1, ?_, ?_, k + 1 + x.t.kids.length, ?_, ?_⟩, ?_⟩ ?_
    · simp only [hi1, hd2]
      intro y hy
      rcases List.mem_append.1 hy with hy | hy
      · exact hok y (by simp [hy])
      · exact hoka y hy
    · simp only [hi1, hd2, qn_append]; omega
    · exact hs1
    · simp only [hi1, hd2, pq_append]; omega
    · rw [headQ] at h6
      rw [← h6]
      simp only [hi1, hd2]
      have e : argHs x.t.kids ((aS ⟨sl, n0, c0⟩).emit ⟨3, (x.t.kids.length : Int), x.slot, x.t.name⟩, w.drop (i.toNat + 1)) = (aS z.1, w.drop (i.toNat + 1) ++ z.2) := hsh
      rw [e]
    · simp only [hi1, hd2, hdrop, qn_append, qn]; omega
  · have he : w.drop i.toNat = [] := List.drop_eq_nil_of_le (by omega)
    rw [he, headQ] at h6
    exact TT.cf (by simp; omega) (TT.pure (hQ _ hw h6))

theorem head_s (ks : List STerm) (hks : ks.length ≤ 4) (hn : nodesL ks ≤ 900) {d : Nat} (hsh : ∀ t ∈ ks, shape t d = true) {m : Sl8Maker} (hm : WfS m) (hst : aS m = start) : TT (fun f _ => M_s_l8Head f m ks) (fun r => WfS r ∧ aS r = headC ks) := by
  have hb : Sb 4 (aS m) := by rw [hst]; exact ⟨by simp [start], by simp [start], by simp [start]⟩
  unfold M_s_l8Head jn
  refine TT.loop (L := fun f n => L_s_l8Head_2 f ks _ n [] 0 m.slots m.next m.code) ?_
  refine TT.forS (σ := List Sleft × List Int × Int × List SInstr) (L := fun f n i s => L_s_l8Head_2 f ks _ n s.1 i s.2.1 s.2.2.1 s.2.2.2) ks.length (by omega)
    (fun i s => WfS ⟨s.2.1, s.2.2.1, s.2.2.2⟩ ∧ (aS ⟨s.2.1, s.2.2.1, s.2.2.2⟩, s.1) = headAs (ks.take i) 0 (aS m, []) ∧ s.1.length ≤ i ∧ Okq s.1) (fun i s hi hI kk => ?_) (fun s hI => ?_) ([], m.slots, m.next, m.code) ⟨hm, by simp [headAs], by simp, fun x hx => by cases hx⟩
  · obtain ⟨q1, s1, n1, c1⟩ := s
    obtain ⟨hw, hI, hl, hok⟩ := hI
    simp only at hw hI hl hok
    simp only [L_s_l8Head_2, jn]
    obtain ⟨y, hy, hy', hym⟩ := listAt hi
    have hno := shape_node (hsh y hym)
    have hsb : Sb (4 + i) (aS ⟨s1, n1, c1⟩) := by
      have := (Sb.headAs (ks.take i) (p := (aS m, [])) 0 hb).1
      rw [← hI] at this
      exact this.le (by simp; omega)
    have hlen : (ks.take i).length = i := by simp; omega
    have hstep : headAs (ks.take (i + 1)) 0 (aS m, []) = headA (aS ⟨s1, n1, c1⟩, q1) (i : Int) y := by rw [take_snoc hy', sn_headAs, ← hI, hlen, Nat.zero_add]
    obtain ⟨b1, b2, b3⟩ := hsb
    simp only [aS] at b1 b2 b3
    refine TT.ct (by simp; omega) (TT.guard (by simp) (TT.opt hy (TT.cond (fun h => ?_) fun h => TT.cond (fun h2 => ?_) fun h2 => TT.cf rfl (TT.cf h2 ?_))))
    · have e : y.kind = 2 := by simpa using h
      refine TT.bind (emit_s (m := ⟨s1, n1, c1⟩) (by simp only; omega) _ _ rfl) fun z hz => ?_
      subst hz
      rw [wrapS hi (by omega)]
      refine kk (q1, s1, n1, _) ⟨hw, ?_, by simp only; omega, hok⟩
      rw [hstep]
      simp only [headA, if_pos e]
      rfl
    · have e : y.kind = 1 := by simpa using h2
      obtain ⟨v1, v2, _, _⟩ := node_var hno e
      obtain ⟨w, hw1, hw2⟩ := aS_at hw v1 v2
      simp only at hw1
      refine TT.guard (by simpa using v1) (TT.opt hw1 (TT.cond (fun h3 => ?_) fun h3 => TT.ct h2 ?_))
      · have hp : 0 ≤ w := by simpa using h3
        refine TT.guard (by simpa using v1) (TT.opt hw1 (TT.bind (emit_s (m := ⟨s1, n1, c1⟩) (by simp only; omega) _ _ rfl) fun z hz => ?_))
        subst hz
        rw [wrapS hi (by omega)]
        refine kk (q1, s1, n1, _) ⟨hw, ?_, by simp only; omega, hok⟩
        rw [hstep]
        simp only [headA, if_neg (show ¬ y.kind = 2 by omega), if_pos e, hw2, if_pos hp]
        rfl
      · have hp : ¬ 0 ≤ w := by simpa using h3
        refine TT.bind (slot_s hw v1 v2 _ _ rfl) fun z hz => ?_
        subst hz
        rw [wrapS hi (by omega)]
        have hb := aS_bind hw v1 v2 (v := (i : Int)) (by omega)
        refine kk (q1, s1.set y.n.toNat (i : Int), n1, c1) ⟨by unfold WfS at hw ⊢; simpa using hw, ?_, by simp only; omega, hok⟩
        rw [hstep]
        simp only [headA, if_neg (show ¬ y.kind = 2 by omega), if_pos e, hw2, if_neg hp]
        simp only at hb ⊢
        rw [hb]
    · have e1 : ¬ y.kind = 1 := by simpa using h2
      have e2 : ¬ y.kind = 2 := by simpa using h
      refine TT.guard (by simp; omega) ?_
      rw [wrapS hi (by omega)]
      refine kk (q1 ++ [⟨y, (i : Int)⟩], s1, n1, c1) ⟨hw, ?_, by simp; omega, ?_⟩
      · rw [hstep]
        simp only [headA, if_neg e1, if_neg e2]
      · intro x hx
        rcases List.mem_append.1 hx with hx | hx
        · exact hok x hx
        · rw [List.mem_singleton.1 hx]; exact ⟨d, hsh y hym⟩
  · obtain ⟨q1, s1, n1, c1⟩ := s
    obtain ⟨hw, hI, hl, hok⟩ := hI
    simp only at hw hI hl hok
    rw [List.take_length] at hI
    simp only [L_s_l8Head_2, jn]
    refine TT.cf (by simp) ?_
    obtain ⟨k1, k2⟩ := Sb.headAs ks (p := (aS m, [])) 0 hb
    have k3 := qn_headAs ks 0 (aS m, [])
    rw [← hI] at k1 k2 k3
    simp only [pq, qn] at k2 k3
    obtain ⟨N, a, ha, h⟩ := headQ_s (q1, 0, s1, n1, c1) ⟨by simp, by simp, hw, by simpa using hok, by simp; omega, _, k1, by simp; omega⟩ (Q := fun r => WfS r ∧ aS r = headC ks) fun r hr1 hr2 => ⟨hr1, by
      rw [hr2]
      simp only [headC, ← hst, ← hI]
      rfl⟩
    exact ⟨N, a, ha, fun f n hf _ => h f f hf hf⟩

end Go.Am
