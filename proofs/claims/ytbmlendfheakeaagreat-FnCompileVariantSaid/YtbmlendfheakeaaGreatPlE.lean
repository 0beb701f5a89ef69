/-
  Plain Lean: drawn clauses.
-/
import Derived.Test.YtbmlendfheakeaaGreatPlD
namespace Go.Am
open Go.Proofs
set_option linter.unusedVariables false
set_option maxRecDepth 1000000

theorem some_ok {b : List Int} (hb : RdOk b) {p : Int} (h0 : 0 ≤ p) (h1 : p ≤ 900000000) : TT (fun f _ => M_s_l1Some f b p) (Drew smT p 1000) := by
  unfold M_s_l1Some
  refine TT.bind (num_ok hb ⟨h0, by omega⟩ _ (by simp)) fun z ⟨hz, hm⟩ => ?_
  have c4 : cst 4 = 483 := rfl
  have c3 : cst 3 = 159 := rfl
  have c2 : cst 2 = 51 := rfl
  have c1 : cst 1 = 15 := rfl
  simp only [List.mem_cons, List.not_mem_nil, or_false] at hm
  have key : ∀ d : Nat, d ≤ 4 → cst d ≤ 900 → TT (fun f _ => Option.bind (M_s_l1Draw f (d : Int) b z.2) fun z1 => some (z1.1, z1.2)) (Drew smT p 1000) := fun d hd hc =>
    TT.bind (draw_ok hb d hd z.2 (by omega) (by omega)) fun r ⟨a1, a2, a3⟩ => TT.pure ⟨a1, by simp only; omega, by simp only; omega⟩
  rcases hm with h | h | h | h <;> rw [h]
  · exact key 3 (by omega) (by omega)
  · exact key 2 (by omega) (by omega)
  · exact key 4 (by omega) (by omega)
  · exact key 1 (by omega) (by omega)

theorem mut1_ok (z0 : STerm) (hz0 : z0.name.size ≤ 1000) (z1 : Int × Int) (P : STerm × Int → Prop) (hP : ∀ ks, ks.length ≤ 1000 → (∀ t ∈ ks, smT t = true) → P (⟨z0.kind, z0.n, z0.name, ks⟩, z1.2)) :
    ∀ ks : List STerm, (ks.length ≤ 1000 ∧ ∀ t ∈ ks, smT t = true) → TT (fun f n => L_s_l1Mutate_1 f z0 (fun v6 v7 v8 v9 va => some ((STerm.mk v7 v8 v9 va), v6)) z1 n ks) P := by
  refine TT.ind (fun ks => 5 - ks.length) _ fun ks ⟨h1, h2⟩ rec => ?_
  simp only [L_s_l1Mutate_1]
  refine TT.cond (fun hc => ?_) fun hc => TT.pure (hP ks h1 h2)
  have hc' : ks.length ≤ 4 := by simp at hc; omega
  refine TT.bind (TT.any (fun _ _ => rfl) rfl) fun z hz => TT.guard (by simp; omega) (rec (ks ++ [z]) ⟨by simp; omega, fun t ht => ?_⟩ (by simp; omega))
  subst hz
  rcases List.mem_append.1 ht with ht | ht
  · exact h2 t ht
  · rw [List.mem_singleton.1 ht]; rfl

theorem mut2_ok (z1 : Int × Int) (P : STerm × Int → Prop) (hP : ∀ t, smT t = true → P (t, z1.2)) :
    ∀ s : Int × Int × Int × ByteArray × List STerm, (0 ≤ s.1 ∧ s.1 ≤ 30 ∧ smT ⟨s.2.1, s.2.2.1, s.2.2.2.1, s.2.2.2.2⟩ = true) → TT (fun f n => L_s_l1Mutate_2 f (fun v6 v7 v8 v9 va => some ((STerm.mk v7 v8 v9 va), v6)) z1 n s.1 s.2.1 s.2.2.1 s.2.2.2.1 s.2.2.2.2) P := by
  refine TT.ind (fun s => (30 - s.1).toNat) _ fun s ⟨h1, h2, h3⟩ rec => ?_
  obtain ⟨i, a, b, c, ks⟩ := s
  simp only at h1 h2 h3
  simp only [L_s_l1Mutate_2]
  refine TT.cond (fun hc => ?_) fun hc => TT.pure (hP _ h3)
  have hc' : i < 30 := by simpa using hc
  refine TT.bind (struct_ok _ _ (by simp) (fun t => smT t = true) ?_) fun z hz => ?_
  · exact (smT_iff _).2 ⟨show (⟨#[115]⟩ : ByteArray).size ≤ 1000 by decide, by simp, fun t ht => by rw [List.mem_singleton.1 ht]; exact h3⟩
  · rw [wrap_id (by omega) (by omega)]
    exact rec (i + 1, z.kind, z.n, z.name, z.kids) ⟨by simp only; omega, by simp only; omega, by cases z; exact hz⟩ (by simp only; omega)

theorem mutate_ok {b : List Int} (hb : RdOk b) {p : Int} (h0 : 0 ≤ p) (h1 : p ≤ 900000000) (t : STerm) (ht : smT t = true) : TT (fun f _ => M_s_l1Mutate f t b p) (Drew smT p 3) := by
  unfold M_s_l1Mutate jn
  have ht' := (smT_iff t).1 ht
  refine TT.bind (copy_ok t ht) fun z hz => ?_
  subst hz
  refine TT.bind (pick_ok hb ⟨h0, by omega⟩ _) fun z1 ⟨p1, _, _, _⟩ => TT.cond (fun _ => ?_) fun _ => TT.cond (fun _ => ?_) fun _ => TT.cond (fun _ => ?_) fun _ => TT.cond (fun _ => ?_) fun _ => TT.cond (fun _ => ?_) fun _ => ?_
  · refine TT.bind (num_ok hb ⟨by omega, by omega⟩ _ (by simp)) fun z2 ⟨p2, _⟩ => TT.pure ⟨?_, by simp only; omega, by simp only; omega⟩
    exact (smT_iff _).2 ht'
  · refine TT.bind (num_ok hb ⟨by omega, by omega⟩ _ (by simp)) fun z2 ⟨p2, _⟩ => TT.pure ⟨?_, by simp only; omega, by simp only; omega⟩
    exact (smT_iff _).2 ht'
  · refine TT.bind (of_ok hb ⟨by omega, by omega⟩ _ (by simp)) fun z2 ⟨p2, hm⟩ => TT.pure ⟨(smT_iff _).2 ⟨?_, ht'.2⟩, by simp only; omega, by simp only; omega⟩
    simp only [List.mem_cons, List.not_mem_nil, or_false] at hm
    rcases hm with h | h | h | h | h <;> simp only [h] <;> decide
  · refine TT.loop (L := fun f n => L_s_l1Mutate_1 f z _ z1 n z.kids) (mut1_ok z ht'.1 z1 _ (fun ks k1 k2 => ⟨(smT_iff _).2 ⟨ht'.1, k1, k2⟩, by simp only; omega, by simp only; omega⟩) z.kids ht'.2)
  · refine TT.loop (L := fun f n => L_s_l1Mutate_2 f _ z1 n 0 z.kind z.n z.name z.kids) (mut2_ok z1 _ (fun t k => ⟨k, by simp only; omega, by simp only; omega⟩) (0, z.kind, z.n, z.name, z.kids) ⟨Int.le_refl _, by simp only; omega, (smT_iff _).2 ht'⟩)
  · exact TT.pure ⟨(smT_iff _).2 ht', by simp only; omega, by simp only; omega⟩

theorem shift_ok (k : Int) : ∀ t : STerm, smT t = true → TT (fun f _ => M_s_l3Shift f t k) (fun r => smT r = true) := by
  refine STerm.ind fun t ih ht => TT.fsucc ?_
  obtain ⟨h1, h2, h3⟩ := (smT_iff t).1 ht
  show TT (fun f _ => B_s_l3Shift f (M_s_l3Shift f) t k) _
  unfold B_s_l3Shift jn
  have key : ∀ v : Int, TT (fun f _ => L_s_l3Shift_1 (M_s_l3Shift f) t k (fun v3 => some (STerm.mk t.kind v t.name v3)) f 0 []) (fun r => smT r = true) := fun v => by
    refine TT.loop (L := fun f n => L_s_l3Shift_1 (M_s_l3Shift f) t k _ n 0 []) (TT.mapLoop (L := fun f n i out => L_s_l3Shift_1 (M_s_l3Shift f) t k _ n i out) (xs := t.kids) (g := fun f x => M_s_l3Shift f x k) (fun _ _ _ _ => rfl) (by omega) (fun _ b => smT b = true) (fun x hx => ih x hx (h3 x hx)) fun ys hys => TT.pure ?_)
    exact (smT_iff _).2 ⟨h1, by simp only; rw [← hys.len]; exact h2, fun y hy => hys.right (S := fun b => smT b = true) (fun _ _ h => h) y hy⟩
  exact TT.cond (fun _ => key _) fun _ => key _

/-! ### The texts of programs -/

def theTexts : List ByteArray := match M_s_l4Texts 0 with | some l => l | none => []
theorem texts_eq (f : Nat) : M_s_l4Texts f = some theTexts := rfl
def progOf (x : ByteArray) : List SClause × Bool := match M_s_ParseProgram 200 x with | some r => r | none => ([], false)
def chkP (r : Option (List SClause × Bool)) : Bool := match r with | some (l, _) => !l.isEmpty && decide (l.length ≤ 20) && l.all (smC 100) | none => false
def eqP (r r' : Option (List SClause × Bool)) : Bool := match r, r' with
  | some (l, b), some (l', b') => eqCs l l' && (b == b')
  | _, _ => false
theorem eqP_eq {r r' : Option (List SClause × Bool)} (h : eqP r r' = true) : r = r' := by
  match r, r' with
  | some (l, b), some (l', b') =>
    simp only [eqP, Bool.and_eq_true, beq_iff_eq] at h
    rw [eqCs_eq _ _ h.1, h.2]
  | none, _ => simp [eqP] at h
  | some _, none => simp [eqP] at h
theorem parse_chk : (theTexts.map (M_s_ParseProgram 200)).all chkP = true := by kernel_rfl
theorem parse_any (f : Nat) : theTexts.all (fun x => eqP (M_s_ParseProgram (f + 200) x) (M_s_ParseProgram 200 x)) = true := by kernel_rfl

theorem parse_ok (x : ByteArray) (hx : x ∈ theTexts) : TT (fun f _ => M_s_ParseProgram f x) (fun r => r = progOf x) ∧ (progOf x).1 ≠ [] ∧ (progOf x).1.length ≤ 20 ∧ ∀ c ∈ (progOf x).1, smC 100 c = true := by
  have hchk := List.all_eq_true.1 parse_chk (M_s_ParseProgram 200 x) (List.mem_map_of_mem hx)
  cases hm : M_s_ParseProgram 200 x with
  | none => rw [hm] at hchk; cases hchk
  | some r =>
    have hp : progOf x = r := by simp only [progOf, hm]
    rw [hm] at hchk
    obtain ⟨l, ok⟩ := r
    simp only [chkP, Bool.and_eq_true, Bool.not_eq_true', decide_eq_true_eq, List.all_eq_true] at hchk
    rw [hp]
    refine ⟨⟨200, _, rfl, fun f n hf _ => ?_⟩, ?_, hchk.1.2, hchk.2⟩
    · obtain ⟨k, rfl⟩ : ∃ k, f = k + 200 := ⟨f - 200, by omega⟩
      rw [← hm]
      exact eqP_eq (List.all_eq_true.1 (parse_any k) x hx)
    · intro h
      have := hchk.1.1
      simp only at h
      rw [h] at this; cases this

theorem prog_ok {b : List Int} (hb : RdOk b) {p : Int} (hp : At p) : TT (fun f _ => M_s_l4Program f b p) (fun r => r.2 = p + 1 ∧ ∃ x ∈ theTexts, r.1 = (progOf x).1) := by
  unfold M_s_l4Program
  refine TT.bind (TT.any (fun f _ => texts_eq f) rfl) fun z hz => ?_
  subst hz
  refine TT.bind (pick_ok hb hp _) fun z1 ⟨h1, h2, h3, _⟩ => TT.guard (by simpa using h2) ?_
  obtain ⟨x, hx, hm⟩ := mem_at h2 (h3 (by decide))
  refine TT.opt hx (TT.bind (parse_ok x hm).1 fun z2 hz2 => TT.pure ⟨h1, x, hm, by simp only; rw [hz2]⟩)

theorem clLoop_ok {b : List Int} (hb : RdOk b) (z9 : STerm) (h9 : smT z9 = true) (q B : Int) (hB : B ≤ 950000000) :
    ∀ s : Int × List STerm × Int, (0 ≤ s.1 ∧ s.1 ≤ 2 ∧ s.2.1.length + s.1.toNat ≤ 10 ∧ (∀ t ∈ s.2.1, smT t = true) ∧ q ≤ s.2.2 ∧ 0 ≤ s.2.2 ∧ s.2.2 + s.1 * 200 ≤ B) →
      TT (fun f n => L_s_l4Clause_1 f b (fun v3 v4 => some ((SClause.mk z9 v4), v3)) n s.1 s.2.1 s.2.2) (fun r => smC 100 r.1 = true ∧ q ≤ r.2 ∧ r.2 ≤ B) := by
  refine TT.ind (fun s => s.1.toNat) _ fun s ⟨h1, h2, h3, h4, h5, h6, h7⟩ rec => ?_
  obtain ⟨v, out, p⟩ := s
  simp only at h1 h2 h3 h4 h5 h6 h7
  simp only [L_s_l4Clause_1]
  have c2 : cst 2 = 51 := rfl
  refine TT.cond (fun hc => ?_) fun hc => TT.pure ⟨(smC_iff _).2 ⟨h9, by simp only; omega, h4⟩, by simp only; omega, by simp only; omega⟩
  have hv : 0 < v := by simpa using hc
  refine TT.bind (of_ok hb ⟨h6, by omega⟩ _ (by simp)) fun z0 ⟨a0, hm⟩ => TT.bind (draw_ok hb 2 (by omega) _ (by omega) (by omega)) fun z1 ⟨b1, b2, b3⟩ => TT.bind (draw_ok hb 2 (by omega) _ (by omega) (by omega)) fun z2 ⟨d1, d2, d3⟩ =>
    TT.bind (struct_ok _ _ (by simp) (fun t => smT t = true) ?_) fun z3 hz3 => TT.guard (by simp; omega) ?_
  · refine (smT_iff _).2 ⟨?_, by simp, fun t ht => ?_⟩
    · simp only [List.mem_cons, List.not_mem_nil, or_false] at hm
      rcases hm with h | h | h | h <;> simp only [h] <;> decide
    · simp only [List.mem_cons, List.not_mem_nil, or_false] at ht
      rcases ht with rfl | rfl
      · exact b1
      · exact d1
  · rw [wrap_id (by omega) (by omega)]
    refine rec (v - 1, out ++ [z3], z2.2) ⟨by simp only; omega, by simp only; omega, by simp; omega, ?_, by simp only; omega, by simp only; omega, by simp only; omega⟩ (by simp only; omega)
    intro t ht
    rcases List.mem_append.1 ht with ht | ht
    · exact h4 t ht
    · rw [List.mem_singleton.1 ht]; exact hz3

theorem clause_ok {b : List Int} (hb : RdOk b) {p : Int} (h0 : 0 ≤ p) (h1 : p ≤ 900000000) : TT (fun f _ => M_s_l4Clause f b p) (Drew (smC 100) p 1000) := by
  unfold M_s_l4Clause jn
  have c2 : cst 2 = 51 := rfl
  refine TT.bind (prog_ok hb ⟨h0, by omega⟩) fun z4 ⟨q4, x, hx, e4⟩ => ?_
  obtain ⟨_, hne, hlen, hall⟩ := parse_ok x hx
  refine TT.bind (pick_ok hb ⟨by omega, by omega⟩ _) fun z5 ⟨q5, _, _, _⟩ => TT.cond (fun _ => ?_) fun _ => ?_
  · refine TT.bind (pick_ok hb ⟨by omega, by omega⟩ _) fun z6 ⟨q6, r6, s6, _⟩ => TT.guard (by simpa using r6) ?_
    have hpos : 0 < z4.1.length := List.length_pos_iff.2 (by rw [e4]; exact hne)
    obtain ⟨c, hc, hm⟩ := mem_at r6 (s6 (by omega))
    exact TT.opt hc (TT.pure ⟨hall c (by rw [← e4]; exact hm), by simp only; omega, by simp only; omega⟩)
  · refine TT.bind (of_ok hb ⟨by omega, by omega⟩ _ (by simp)) fun z7 ⟨q7, hm⟩ => TT.bind (draw_ok hb 2 (by omega) _ (by omega) (by omega)) fun z8 ⟨b1, b2, b3⟩ => TT.bind (struct_ok _ _ (by simp) (fun t => smT t = true) ?_) fun z9 h9 => TT.bind (pick_ok hb ⟨by omega, by omega⟩ _) fun za ⟨qa, ra, sa, _⟩ => ?_
    · refine (smT_iff _).2 ⟨?_, by simp, fun t ht => by rw [List.mem_singleton.1 ht]; exact b1⟩
      simp only [List.mem_cons, List.not_mem_nil, or_false] at hm
      rcases hm with h | h | h <;> simp only [h] <;> decide
    · have := sa (by omega)
      refine TT.loop (L := fun f n => L_s_l4Clause_1 f b _ n za.1 [] za.2) ?_
      exact (clLoop_ok hb z9 h9 p (p + 1000) (by omega) (za.1, [], za.2) ⟨ra, by simp only; omega, by simp; omega, by simp, by simp only; omega, by simp only; omega, by simp only; omega⟩)

theorem mutC1_ok (z0 : SClause) (hz0 : smT z0.head = true) (z1 : Int × Int) (P : SClause × Int → Prop) (hP : ∀ c, smC 1000 c = true → P (c, z1.2)) :
    ∀ ks : List STerm, (ks.length ≤ 1000 ∧ ∀ t ∈ ks, smT t = true) → TT (fun f n => L_s_l4Mutate_1 f z0 (fun v1 v2 v3 v4 v5 v6 => some ((SClause.mk (STerm.mk v2 v3 v4 v5) v6), v1)) z1 n ks) P := by
  refine TT.ind (fun ks => 7 - ks.length) _ fun ks ⟨h1, h2⟩ rec => ?_
  simp only [L_s_l4Mutate_1]
  refine TT.cond (fun hc => ?_) fun hc => TT.pure (hP _ ((smC_iff _).2 ⟨(smT_iff _).2 ((smT_iff z0.head).1 hz0), h1, h2⟩))
  have hc' : ks.length ≤ 6 := by simp at hc; omega
  refine TT.bind (struct_ok _ _ (by simp) (fun t => smT t = true) (by decide)) fun z hz => TT.guard (by simp; omega) (rec (ks ++ [z]) ⟨by simp; omega, fun t ht => ?_⟩ (by simp; omega))
  rcases List.mem_append.1 ht with ht | ht
  · exact h2 t ht
  · rw [List.mem_singleton.1 ht]; exact hz

theorem mutC_ok {b : List Int} (hb : RdOk b) {p : Int} (h0 : 0 ≤ p) (h1 : p ≤ 800000000) (c : SClause) (hc : smC 100 c = true) : TT (fun f _ => M_s_l4Mutate f c b p) (Drew (smC 1000) p 2000) := by
  unfold M_s_l4Mutate jn
  have hc' := (smC_iff c).1 hc
  refine TT.bind (copyC_ok c (smC_le (by omega) hc)) fun z hz => ?_
  subst hz
  refine TT.bind (pick_ok hb ⟨h0, by omega⟩ _) fun z1 ⟨p1, _, _, _⟩ => TT.cond (fun _ => ?_) fun _ => TT.cond (fun _ => ?_) fun _ => TT.cond (fun _ => ?_) fun _ => TT.cond (fun _ => ?_) fun _ => ?_
  · refine TT.bind (some_ok hb (by omega) (by omega)) fun z3 ⟨a1, a2, a3⟩ => TT.bind (mutate_ok hb (by omega) (by omega) _ a1) fun z4 ⟨b1, b2, b3⟩ => TT.pure ⟨(smC_iff _).2 ⟨(smT_iff _).2 ((smT_iff z4.1).1 b1), by simp only; omega, hc'.2.2⟩, by simp only; omega, by simp only; omega⟩
  · refine TT.bind (some_ok hb (by omega) (by omega)) fun z3 ⟨a1, a2, a3⟩ => TT.bind (mutate_ok hb (by omega) (by omega) _ a1) fun z4 ⟨b1, b2, b3⟩ => TT.guard (by simp; omega) (TT.pure ⟨?_, by simp only; omega, by simp only; omega⟩)
    refine (smC_iff _).2 ⟨(smT_iff _).2 ((smT_iff z.head).1 hc'.1), by simp; omega, fun t ht => ?_⟩
    rcases List.mem_append.1 ht with ht | ht
    · exact hc'.2.2 t ht
    · rw [List.mem_singleton.1 ht]; exact b1
  · exact TT.loop (L := fun f n => L_s_l4Mutate_1 f z _ z1 n z.body) (mutC1_ok z hc'.1 z1 _ (fun c k => ⟨k, by simp only; omega, by simp only; omega⟩) z.body ⟨by omega, hc'.2.2⟩)
  · refine TT.bind (of_ok hb ⟨by omega, by omega⟩ _ (by simp)) fun z7 ⟨p7, hm⟩ => TT.pure ⟨(smC_iff _).2 ⟨(smT_iff _).2 ⟨?_, ((smT_iff z.head).1 hc'.1).2⟩, by simp only; omega, hc'.2.2⟩, by simp only; omega, by simp only; omega⟩
    simp only [List.mem_cons, List.not_mem_nil, or_false] at hm
    rcases hm with h | h | h | h | h <;> simp only [h] <;> decide
  · exact TT.pure ⟨(smC_iff _).2 ⟨(smT_iff _).2 ((smT_iff z.head).1 hc'.1), by simp only; omega, hc'.2.2⟩, by simp only; omega, by simp only; omega⟩

end Go.Am
