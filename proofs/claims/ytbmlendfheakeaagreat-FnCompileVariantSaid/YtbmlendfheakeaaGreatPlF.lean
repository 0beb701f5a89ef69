/-
  Plain Lean: the clause that FnCompileVariant draws.
-/
import Derived.Test.YtbmlendfheakeaaGreatPlE
namespace Go.Am
open Go.Proofs
set_option linter.unusedVariables false

def Bytes (l : List Int) : Prop := ∀ x ∈ l, 0 ≤ x ∧ x ≤ 255

theorem open_ok (l : List Int) (h : Bytes l) (P : List Int × Int → Prop) (hP : ∀ b, RdOk b → P (b, 0)) : TT (fun f _ => M_s_l18Open f l) P := by
  unfold M_s_l18Open jn
  refine TT.cond (fun hc => TT.guard ?_ (TT.pure (hP _ ⟨by simp; omega, fun x hx => h x (List.mem_of_mem_take hx)⟩))) fun hc => TT.pure (hP _ ⟨?_, h⟩)
  · simp at hc ⊢; omega
  · simp at hc; omega

theorem drawRen_ok (code : List Int) (h : Bytes code) : TT (fun f _ => M_s_DrawRenumberClause f code) (fun c => smC 1000 c = true) := by
  unfold M_s_DrawRenumberClause jn
  refine TT.bind (open_ok code h (fun r => RdOk r.1 ∧ r.2 = 0) fun b hb => ⟨hb, rfl⟩) fun z3 ⟨hb, e3⟩ => TT.bind (clause_ok hb (by omega) (by omega)) fun z0 ⟨a1, a2, a3⟩ => TT.bind (pick_ok hb ⟨by omega, by omega⟩ _) fun z1 ⟨q1, _, _, _⟩ => ?_
  obtain ⟨c1, c2, c3⟩ := (smC_iff z0.1).1 a1
  refine TT.bind (shift_ok z1.1 _ c1) fun z4 h4 => TT.loop (L := fun f n => L_s_DrawRenumberClause_1 f z0 z1 _ n 0 []) ?_
  refine TT.mapLoop (L := fun f n i out => L_s_DrawRenumberClause_1 f z0 z1 _ n i out) (xs := z0.1.body) (g := fun f x => M_s_l3Shift f x z1.1) (fun _ _ _ _ => rfl) (by omega) (fun _ b => smT b = true) (fun x hx => shift_ok z1.1 x (c3 x hx)) fun ys hys => ?_
  refine TT.bind (mutC_ok hb (by omega) (by omega) _ ((smC_iff _).2 ⟨h4, by simp only; rw [← hys.len]; exact c2, fun y hy => hys.right (S := fun b => smT b = true) (fun _ _ h => h) y hy⟩)) fun z5 ⟨b1, _, _⟩ => TT.pure b1

end Go.Am
