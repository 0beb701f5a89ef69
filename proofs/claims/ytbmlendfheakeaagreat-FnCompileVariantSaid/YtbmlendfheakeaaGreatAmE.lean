/-
  The abstract machine's reading operations are the model's.
-/
import Derived.Test.YtbmlendfheakeaaGreatAmD
import Derived.Laws.Small
import Derived.Laws.Pointers
import Derived.Laws.StructEq
import Derived.Laws.Strings
namespace Go.Am

variable {P : Program} {Γ : Gh} {env : Env} {σ : St} {a : Act} {w : World}

theorem ofCell_sound : ∀ (v : Value) (x : AV), ofCell v = some x → VR Γ x v := by
  intro v x h
  unfold ofCell at h
  split at h <;> first | (cases h; done) | skip
  · cases h; simp [VR]
  · cases h; simp [VR]
  · cases h; simp [VR]
  · cases h; simp only [VR]; exact ⟨none, 0, [], by simp, Nat.le_refl _, fun _ => by simp, VRE.nil 0, by simp [ImmAt], by simp [TkOk]⟩
  · cases h; simp [VR]
  · cases h; simp [VR]
  · cases h; simp [VR]

theorem ofCells_sound : ∀ (vs : List Value) (xs : List AV), ofCells vs = some xs → VRL Γ xs vs
  | [], xs, h => by simp [ofCells] at h; subst h; exact VRL.nil
  | v :: vs, xs, h => by
    simp only [ofCells] at h
    split at h
    · rename_i p q h1 h2; cases h; exact VRL.cons (ofCell_sound v p h1) (ofCells_sound vs q h2)
    · cases h

theorem ofVal_sound {v : Value} {x : AV} (h : ofVal v = some x) : VR Γ x v := by
  unfold ofVal at h
  split at h
  · rename_i cs
    split at h
    · rename_i p h1; cases h
      simp only [VR]; exact ⟨cs.toList, by simp, ofCells_sound _ _ h1⟩
    · cases h
  · exact ofCell_sound _ _ h

theorem opd_sound (he : EnvRel Γ env a) {x : Operand} {v : AV} (h : opd env x = some v) : VR Γ v (a.eval x) := by
  cases x with
  | tmp t => exact he t v h
  | const c => exact ofVal_sound h
  | func f => simp only [opd] at h; cases h; simp only [VR, Act.eval]; exact ⟨[], by simp, VRL.nil⟩
  | global g => simp [opd] at h

theorem opds_sound (he : EnvRel Γ env a) : ∀ {xs : List Operand} {vs : List AV}, opds env xs = some vs → VRL Γ vs (xs.map a.eval)
  | [], vs, h => by simp [opds] at h; subst h; exact VRL.nil
  | x :: xs, vs, h => by
    simp only [opds] at h
    split at h
    · rename_i p q h1 h2; cases h; exact VRL.cons (opd_sound he h1) (opds_sound he h2)
    · cases h

theorem opdO_sound (he : EnvRel Γ env a) {x : Option Operand} {v : Option AV} (h : opdO env x = some v) :
    (v = none ∧ x = none) ∨ ∃ y p, v = some y ∧ x = some p ∧ VR Γ y (a.eval p) := by
  cases x with
  | none => simp [opdO] at h; exact .inl ⟨h.symm, rfl⟩
  | some p =>
    simp only [opdO] at h
    split at h
    · rename_i y h1; cases h; exact .inr ⟨y, p, rfl, rfl, opd_sound he h1⟩
    · cases h

theorem tiOf_info {t : TypeId} {ti : TI} (h : tiOf P t = some ti) : ∃ i d, P.info? t = some i ∧ P.underlying t = some d ∧
    ti = { sz := i.size, bytes := i.bytes, agg := isAggD d, zero := i.zero.bind ofVal, sh := shOf P t d } := by
  unfold tiOf at h
  split at h
  · rename_i i d h1 h2; cases h; exact ⟨i, d, h1, h2, rfl⟩
  · cases h

theorem run_sizeOf' {t : TypeId} {i : TypeInfo} (h : P.info? t = some i) : (sizeOf t).run P w = .ok i.size w := by
  simp [sizeOf, typeInfo, h]

/-- What an operation that only reads comes to. -/
def Reads (P : Program) (Γ : Gh) (a : Act) (w : World) (o : Oper) (v : AV) : Prop := ∃ cv, (execOp a.eval o).run P w = .ok (.value cv) w ∧ VR Γ v cv

theorem add_none (b o n : Nat) : (⟨b, o, none⟩ : Addr).add n = ⟨b, o + n, none⟩ := by
  unfold Addr.add; split
  · rename_i h; subst h; rfl
  · rfl

/-- Cells that lie there, read as one variable. -/
theorem run_loadVar_am {t : TypeId} {ti : TI} (ht : tiOf P t = some ti) {b off : Nat} {cs : List AV} {xs : List Value} {v : AV} {n : Nat} (hv : VRL Γ cs xs) (hl : lod ti cs n = some v)
    (hc : ∀ i x, xs[i]? = some x → w.cell? ⟨b, off + i, none⟩ = some x) : ∃ cv, (loadVar t ⟨b, off + n, none⟩).run P w = .ok cv w ∧ VR Γ v cv := by
  obtain ⟨i, d, h1, h2, rfl⟩ := tiOf_info ht
  have hagg : (isAgg t).run P w = .ok (isAggD d) w := by
    simp only [isAgg, Sem.run_bind, run_underlying h2]
    cases d <;> simp [Result.andThen, isAggD]
  unfold lod at hl
  split at hl
  · rename_i hq
    simp only at hq
    simp only [cut] at hl
    split at hl
    · rename_i hle
      simp only [Option.map_some, Option.some.injEq] at hl
      subst hl
      have hlen := hv.length
      have e1 : ((xs.drop n).take i.size).length = i.size := by simp; omega
      have hload := run_loadCells_list (P := P) w ⟨b, off + n, none⟩ ((xs.drop n).take i.size) (fun j x hj => by
        rw [add_none]
        rw [List.getElem?_take] at hj
        split at hj
        · rw [List.getElem?_drop] at hj
          have := hc _ _ hj
          rwa [show off + (n + j) = off + n + j from by omega] at this
        · cases hj)
      rw [e1] at hload
      refine ⟨.agg ((xs.drop n).take i.size).toArray, ?_, ?_⟩
      · simp [loadVar, hagg, hq, run_sizeOf' h1, hload]
      · simp only [VR]; exact ⟨_, rfl, (hv.drop n).take _⟩
    · simp at hl
  · rename_i hq
    simp only [Bool.not_eq_true] at hq
    obtain ⟨x, hx, hr⟩ := hv.get hl
    refine ⟨x, ?_, hr⟩
    have := hc _ _ hx
    simp [loadVar, hagg, hq, load, Sem.run, this]

theorem rd_load {o : Oper} {t : TypeId} {x : Operand} (ho : o.op = .load t x) {v : AV} (he : EnvRel Γ env a) (hr : Rel σ Γ w) (h : rd P env σ (.load t x) = some v) : Reads P Γ a w o v := by
  simp only [rd] at h
  split at h
  · rename_i ti id off ht hx
    split at h
    · rename_i cs hσ
      have hp := opd_sound he hx
      simp only [VR] at hp
      obtain ⟨b, c, hl, hp⟩ := hp
      obtain ⟨l, hl', ho'⟩ := hr.obj _ _ hσ
      rw [hl] at hl'; cases hl'
      obtain ⟨_, _, arr, T, fz, hh, _, _, hle, hv⟩ := ho'
      obtain ⟨cv, hrun, hvr⟩ := run_loadVar_am (P := P) (w := w) (b := b) (off := 0) ht hv h (fun i x hi => by
        rw [Nat.zero_add, cell?_cells hh]
        rw [List.getElem?_take] at hi
        split at hi
        · simpa using hi
        · cases hi)
      rw [Nat.zero_add] at hrun
      exact ⟨cv, by simp [execOp, ho, Instr.loadAt, hp, Instr.sureAddr, hrun], hvr⟩
    · cases h
  · rename_i ti cs off ht hx
    have hp := opd_sound he hx
    simp only [VR] at hp
    obtain ⟨b, o', xs, hp, hv, him⟩ := hp
    obtain ⟨cv, hrun, hvr⟩ := run_loadVar_am (P := P) (w := w) (b := b) (off := o') ht hv h (fun i x hi => (hr.im _ _ _ (him i x hi)).1)
    exact ⟨cv, by simp [execOp, ho, Instr.loadAt, hp, Instr.sureAddr, hrun], hvr⟩
  · cases h

theorem rd_move {o : Oper} {x : Operand} (ho : o.op = .move x ∨ o.op = .assign x) {v : AV} (he : EnvRel Γ env a) (h : opd env x = some v) : Reads P Γ a w o v := by
  refine ⟨_, ?_, opd_sound he h⟩
  rcases ho with ho | ho <;> simp [execOp, ho]

theorem rd_pick {o : Oper} {c x y : Operand} (ho : o.op = .pick c x y) {v : AV} (he : EnvRel Γ env a) (h : rd P env σ (.pick c x y) = some v) : Reads P Γ a w o v := by
  simp only [rd] at h
  split at h
  · rename_i t hc
    have hp := opd_sound he hc
    simp only [VR] at hp
    cases t
    · exact ⟨a.eval y, by simp [execOp, ho, hp, asBool], opd_sound he (by simpa using h)⟩
    · exact ⟨a.eval x, by simp [execOp, ho, hp, asBool], opd_sound he (by simpa using h)⟩
  · cases h

theorem rd_nilCheck {o : Oper} {x : Operand} (ho : o.op = .nilCheck x) {v : AV} (he : EnvRel Γ env a) (h : rd P env σ (.nilCheck x) = some v) : Reads P Γ a w o v := by
  simp only [rd] at h
  split at h
  · rename_i i p hx
    have hp := opd_sound he hx
    cases h
    refine ⟨a.eval x, ?_, hp⟩
    simp only [VR] at hp
    obtain ⟨b, c, _, hp⟩ := hp
    simp [execOp, ho, hp]
  · rename_i i p hx
    have hp := opd_sound he hx
    cases h
    refine ⟨a.eval x, ?_, hp⟩
    simp only [VR] at hp
    obtain ⟨b, c, _, hp, _⟩ := hp
    simp [execOp, ho, hp]
  · rename_i i p hx
    have hp := opd_sound he hx
    cases h
    refine ⟨a.eval x, ?_, hp⟩
    simp only [VR] at hp
    obtain ⟨xs, hp, _⟩ := hp
    simp [execOp, ho, hp]
  · cases h

theorem rd_unOp {o : Oper} {op : UnOp} {t : TypeId} {x : Operand} (ho : o.op = .unOp op t x) {v : AV} (he : EnvRel Γ env a) (h : rd P env σ (.unOp op t x) = some v) : Reads P Γ a w o v := by
  simp only [rd] at h
  split at h
  · rename_i b hx
    have hp := opd_sound he hx
    simp only [VR] at hp
    cases h
    exact ⟨.bool (!b), by simp only [execOp, ho, hp]; simp [Op.unary], by simp [VR]⟩
  · rename_i k b hx
    have hp := opd_sound he hx
    simp only [VR] at hp
    cases h
    exact ⟨.int k (k.wrap (0 - b)), by simp only [execOp, ho, hp]; simp [Op.unary, Op.intArith], by simp [VR]⟩
  · cases h

theorem rd_extract {o : Oper} {x : Operand} {i : Nat} (ho : o.op = .extract x i) {v : AV} (he : EnvRel Γ env a) (h : rd P env σ (.extract x i) = some v) : Reads P Γ a w o v := by
  simp only [rd] at h
  split at h
  · rename_i vs hx
    have hp := opd_sound he hx
    simp only [VR] at hp
    obtain ⟨xs, hp, hv⟩ := hp
    obtain ⟨y, hy, hr⟩ := hv.get h
    refine ⟨y, ?_, hr⟩
    simp [execOp, ho, hp, Instr.extract, hy]
  · cases h

theorem rd_makeFunc {o : Oper} {f : FuncId} {first captured : Array Operand} (ho : o.op = .makeFunc (.func f) first captured) {v : AV} (he : EnvRel Γ env a)
    (h : rd P env σ (.makeFunc (.func f) first captured) = some v) : Reads P Γ a w o v := by
  simp only [rd] at h
  split at h
  · rename_i hz
    cases hc : opds env captured.toList with
    | none => simp [hc] at h
    | some as =>
      simp [hc] at h
      subst h
      have hz' : first = #[] := by simpa using hz
      subst hz'
      refine ⟨.func (.func f) #[] (captured.map a.eval), ?_, ?_⟩
      · simp [execOp, ho, Instr.makeFunc]
      · simp only [VR]; exact ⟨captured.toList.map a.eval, by rw [← Array.toList_map, Array.toArray_toList], opds_sound he hc⟩
  · cases h

theorem run_eqGuard {op : BinOp} {t : TypeId} {x y : Operand} {u v : Value} (h : match u, v with | .nilIface, _ => False | .agg _, _ => False | _, _ => True) : (eqGuard op t x y u v).run P w = .ok () w := by
  cases u <;> first | (exact h.elim) | (cases op <;> simp [eqGuard])

theorem rd_bin_int {o : Oper} {op : BinOp} {t u : TypeId} {x y : Operand} (ho : o.op = .binOp op t x y u) {k k' : IntKind} {m n : Int} (hx : a.eval x = .int k m) (hy : a.eval y = .int k' n)
    {v : AV} (hk : k = k') (h : intBin op k m n = some v) : Reads P Γ a w o v := by
  subst hk
  have hg : (eqGuard op t x y (.int k m) (.int k n)).run P w = .ok () w := run_eqGuard trivial
  cases op <;> simp only [intBin] at h <;> first | (cases h; done) | skip
  case quo | rem =>
    split at h
    · cases h
    · rename_i h0
      cases h
      refine ⟨_, ?_, by simp only [VR]; rfl⟩
      simp [execOp, ho, hx, hy, hg, binOp, Op.intDiv, h0]
  all_goals
    cases h
    refine ⟨_, ?_, by simp only [VR]; rfl⟩
    simp [execOp, ho, hx, hy, hg, binOp, Op.intArith, Op.intBits, Op.intCmp, bne]

theorem bytes_toList_eq (s t : ByteArray) : (s.toList == t.toList) = decide (s = t) := by
  by_cases h : s = t
  · subst h; simp
  · have : s.toList ≠ t.toList := fun hh => h (by
      rw [ByteArray.toList_eq, ByteArray.toList_eq] at hh
      cases s; cases t
      simp only [ByteArray.mk.injEq]
      exact Array.ext' hh)
    simp [h, this]

theorem sh_bool {t : TypeId} {d : TypeDesc} (h : shOf P t d = .bool) : d = .bool := by cases d <;> simp only [shOf] at h <;> first | rfl | (cases h; done) | (split at h <;> cases h)
theorem sh_int {t : TypeId} {d : TypeDesc} {k : IntKind} (h : shOf P t d = .int k) : d = .int k := by cases d <;> simp only [shOf] at h <;> first | (cases h; rfl) | (cases h; done) | (split at h <;> cases h)
theorem sh_string {t : TypeId} {d : TypeDesc} (h : shOf P t d = .string) : d = .string := by cases d <;> simp only [shOf] at h <;> first | (cases h; rfl) | (cases h; done) | (split at h <;> cases h)
theorem sh_slice {t : TypeId} {d : TypeDesc} {e : TypeId} (h : shOf P t d = .slice e) : d = .slice e := by cases d <;> simp only [shOf] at h <;> first | (cases h; rfl) | (cases h; done) | (split at h <;> cases h)
theorem sh_array {t : TypeId} {d : TypeDesc} {n : Nat} {e : TypeId} (h : shOf P t d = .array n e) : d = .array n e := by cases d <;> simp only [shOf] at h <;> first | (cases h; rfl) | (cases h; done) | (split at h <;> cases h)
theorem sh_pointer {t : TypeId} {d : TypeDesc} (h : shOf P t d = .pointer) : ∃ e, d = .pointer e := by cases d <;> simp only [shOf] at h <;> first | (cases h; exact ⟨_, rfl⟩) | (cases h; done) | (split at h <;> cases h)
theorem sh_map {t : TypeId} {d : TypeDesc} {k e : TypeId} (h : shOf P t d = .map k e) : d = .map k e := by cases d <;> simp only [shOf] at h <;> first | (cases h; rfl) | (cases h; done) | (split at h <;> cases h)
theorem sh_struct {t : TypeId} {d : TypeDesc} {fs : List (Nat × Nat × Bool)} {eq : Option (List EqK)} (h : shOf P t d = .struct fs eq) :
    ∃ gs, d = .struct gs ∧ fs = gs.toList.map (fun f => (f.offset, P.cellsOf f.type, match P.underlying f.type with | some (.struct _) | some (.array ..) => true | _ => false)) ∧
      eq = (if P.stoodInHeld t || P.eqGuardType P.depth t then none else eqFields P 0 gs.toList) ∧ ∀ g ∈ gs.toList, (P.info? g.type).isSome = true ∧ (P.underlying g.type).isSome = true := by
  cases d <;> simp only [shOf] at h <;> first | (cases h; done) | skip
  split at h
  · rename_i hall
    simp only [Sh.struct.injEq] at h
    refine ⟨_, rfl, h.1.symm, h.2.symm, fun g hg => ?_⟩
    have := List.all_eq_true.1 hall g hg
    simpa using this
  · cases h

theorem rd_bin_str {o : Oper} {op : BinOp} {t u : TypeId} {x y : Operand} (ho : o.op = .binOp op t x y u) {m n : ByteArray} (hx : a.eval x = .string m) (hy : a.eval y = .string n)
    {v : AV} (h : strBin op m n = some v) : Reads P Γ a w o v := by
  have hg : (eqGuard op t x y (.string m) (.string n)).run P w = .ok () w := run_eqGuard trivial
  cases op <;> simp only [strBin] at h <;> first | (cases h; done) | skip
  case add =>
    split at h
    · rename_i h0
      cases h
      refine ⟨.string (m ++ n), ?_, by simp only [VR]⟩
      simp [execOp, ho, hx, hy, hg, binOp, Op.stringOp]
      omega
    · cases h
  all_goals
    cases h
    refine ⟨_, ?_, by simp only [VR]; rfl⟩
    simp [execOp, ho, hx, hy, hg, binOp, Op.stringOp, bytes_toList_eq]

theorem run_equal_pointer {t e : TypeId} (h : P.underlying t = some (.pointer e)) (p : Option Addr) : (Op.equal t (.pointer p) (.pointer none)).run P w = .ok p.isNone w :=
  run_equal_pointer_nil w t p (by simp [Program.pointee, h])

theorem rd_bin_nil {o : Oper} {op : BinOp} {t u : TypeId} {x y : Operand} (ho : o.op = .binOp op t x y u) {e : TypeId} (ht : P.underlying t = some (.pointer e)) {p : Option Addr} (hx : a.eval x = .pointer p)
    (hy : a.eval y = .pointer none) {v : AV} (h : eqv op p.isNone = some v) : Reads P Γ a w o v := by
  have hg : (eqGuard op t x y (.pointer p) (.pointer none)).run P w = .ok () w := run_eqGuard trivial
  have he := run_equal_pointer (P := P) (w := w) ht p
  cases op <;> simp only [eqv] at h <;> first | (cases h; done) | skip
  all_goals
    cases h
    refine ⟨_, ?_, by simp only [VR]; rfl⟩
    simp [execOp, ho, hx, hy, hg, binOp, he]

theorem run_part_plain {t : TypeId} {d : TypeDesc} (h : P.underlying t = some d) (hd : isAggD d = false) {cs : Array Value} {off : Nat} {x : Value} (hx : cs[off]? = some x) : (part t cs off).run P w = .ok x w := by
  have hagg : (isAgg t).run P w = .ok (isAggD d) w := by
    simp only [isAgg, Sem.run_bind, run_underlying h]
    cases d <;> simp [Result.andThen, isAggD]
  simp [part, hagg, hd, hx]

theorem eqFields_cons {n : Nat} {f : Field} {fs : List Field} {ks : List EqK} (h : eqFields P n (f :: fs) = some ks) :
    f.name ≠ "_" ∧ f.offset = n ∧ ∃ k r d, ks = k :: r ∧ eqFields P (n + 1) fs = some r ∧ P.underlying f.type = some d ∧ (match k with | .b => d = .bool | .i => ∃ i, d = .int i | .s => d = .string) := by
  simp only [eqFields] at h
  split at h
  · rename_i hc
    simp only [Bool.and_eq_true, bne_iff_ne, beq_iff_eq] at hc
    refine ⟨hc.1.1, hc.1.2, ?_⟩
    split at h <;> first | (cases h; done) | skip
    · rename_i r h1 h2; cases h; exact ⟨_, r, _, rfl, h2, h1, rfl⟩
    · rename_i i r h1 h2; cases h; exact ⟨_, r, _, rfl, h2, h1, ⟨i, rfl⟩⟩
    · rename_i r h1 h2; cases h; exact ⟨_, r, _, rfl, h2, h1, rfl⟩
  · cases h

theorem run_eqFields {xs ys : Array Value} (d : Nat) : ∀ (fs : List Field) (n : Nat) (ks : List EqK) (cs ds : List AV) (r : Bool), eqFields P n fs = some ks → cellsEq ks cs ds = some r →
    (∀ i c, cs[i]? = some c → ∃ x, xs[n + i]? = some x ∧ VR Γ c x) → (∀ i c, ds[i]? = some c → ∃ x, ys[n + i]? = some x ∧ VR Γ c x) →
    (Op.eqFields (d + 1) xs ys fs).run P w = .ok r w
  | [], n, ks, cs, ds, r, hf, hc, _, _ => by
    simp [eqFields] at hf
    subst hf
    cases cs <;> cases ds <;> simp [cellsEq] at hc
    subst hc; simp [Op.eqFields]
  | f :: fs, n, ks, cs, ds, r, hf, hc, h1, h2 => by
    obtain ⟨hn, hoff, k, r', dd, rfl, hf', hu, hk⟩ := eqFields_cons hf
    have key : ∃ x y cs' ds' b q, cs = x :: cs' ∧ ds = y :: ds' ∧ cellsEq r' cs' ds' = some q ∧ r = (b && q) ∧ isAggD dd = false ∧
        ∀ x0 y0, VR Γ x x0 → VR Γ y y0 → (Op.equalIn (d + 1) f.type x0 y0).run P w = .ok b w := by
      cases k <;> simp only at hk
      · subst hk
        cases cs with
        | nil => simp [cellsEq] at hc
        | cons x cs => cases ds with
          | nil => cases x <;> simp [cellsEq] at hc
          | cons y ds =>
            cases x <;> cases y <;> simp only [cellsEq] at hc <;> first | (cases hc; done) | skip
            rename_i m m'
            cases hq : cellsEq r' cs ds with
            | none => rw [hq] at hc; simp at hc
            | some q =>
              rw [hq] at hc; simp at hc
              refine ⟨_, _, cs, ds, (m == m'), q, rfl, rfl, hq, hc.symm, rfl, fun x0 y0 a1 a2 => ?_⟩
              simp only [VR] at a1 a2; subst a1; subst a2
              exact run_equalIn_bool w d f.type m m' hu
      · obtain ⟨i, rfl⟩ := hk
        cases cs with
        | nil => simp [cellsEq] at hc
        | cons x cs => cases ds with
          | nil => cases x <;> simp [cellsEq] at hc
          | cons y ds =>
            cases x <;> cases y <;> simp only [cellsEq] at hc <;> first | (cases hc; done) | skip
            rename_i k1 m k2 m'
            split at hc
            · rename_i hkk; subst hkk
              cases hq : cellsEq r' cs ds with
              | none => rw [hq] at hc; simp at hc
              | some q =>
                rw [hq] at hc; simp at hc
                refine ⟨_, _, cs, ds, (m == m'), q, rfl, rfl, hq, hc.symm, rfl, fun x0 y0 a1 a2 => ?_⟩
                simp only [VR] at a1 a2; subst a1; subst a2
                exact run_equalIn_int w d f.type k1 i m m' hu
            · cases hc
      · subst hk
        cases cs with
        | nil => simp [cellsEq] at hc
        | cons x cs => cases ds with
          | nil => cases x <;> simp [cellsEq] at hc
          | cons y ds =>
            cases x <;> cases y <;> simp only [cellsEq] at hc <;> first | (cases hc; done) | skip
            rename_i m m'
            cases hq : cellsEq r' cs ds with
            | none => rw [hq] at hc; simp at hc
            | some q =>
              rw [hq] at hc; simp at hc
              refine ⟨_, _, cs, ds, decide (m = m'), q, rfl, rfl, hq, hc.symm, rfl, fun x0 y0 a1 a2 => ?_⟩
              simp only [VR] at a1 a2; subst a1; subst a2
              rw [run_equalIn_string w d f.type m m' hu, bytes_toList_eq]
    obtain ⟨x, y, cs', ds', b, q, rfl, rfl, hq, rfl, hag, heq⟩ := key
    obtain ⟨x0, hx0, hv0⟩ := h1 0 x (by simp)
    obtain ⟨y0, hy0, hw0⟩ := h2 0 y (by simp)
    rw [Nat.add_zero] at hx0 hy0
    have ih := run_eqFields d fs (n + 1) r' cs' ds' q hf' hq
      (fun i e hi => by have := h1 (i + 1) e (by simpa using hi); rwa [show n + (i + 1) = n + 1 + i from by omega] at this)
      (fun i e hi => by have := h2 (i + 1) e (by simpa using hi); rwa [show n + (i + 1) = n + 1 + i from by omega] at this)
    have p1 := run_part_plain (P := P) (w := w) hu hag hx0
    have p2 := run_part_plain (P := P) (w := w) hu hag hy0
    simp only [Op.eqFields, hn, ne_eq, not_false_eq_true, if_true, hoff, Sem.run_bind, p1, p2, Result.andThen_ok, heq x0 y0 hv0 hw0]
    cases b <;> simp [ih]

theorem rd_binOp {o : Oper} {op : BinOp} {t u : TypeId} {x y : Operand} (ho : o.op = .binOp op t x y u) {v : AV} (he : EnvRel Γ env a) (h : rd P env σ (.binOp op t x y u) = some v) : Reads P Γ a w o v := by
  simp only [rd] at h
  split at h
  · rename_i p q hp hq
    have hx := opd_sound he hp
    have hy := opd_sound he hq
    unfold bin at h
    split at h
    · simp only [VR] at hx hy
      split at h
      · rename_i hk; exact rd_bin_int ho hx hy hk h
      · cases h
    · simp only [VR] at hx hy
      exact rd_bin_str ho hx hy h
    · rename_i m n
      simp only [VR] at hx hy
      split at h
      · rename_i ti hti
        obtain ⟨i, d, h1, h2, h3⟩ := tiOf_info hti
        simp only [TI.mk.injEq] at h3
        have hd := sh_bool h3.2.2.2.2.symm
        subst hd
        have hg : (eqGuard op t x y (.bool m) (.bool n)).run P w = .ok () w := run_eqGuard trivial
        have heq := run_equal_bool (P := P) w t m n h2
        cases op <;> simp only [eqv] at h <;> first | (cases h; done) | skip
        all_goals
          cases h
          refine ⟨_, ?_, by simp only [VR]; rfl⟩
          simp [execOp, ho, hx, hy, hg, binOp, heq]
      · cases h
    · simp only [VR] at hx hy
      split at h
      · rename_i ti hti
        obtain ⟨i, d, h1, h2, h3⟩ := tiOf_info hti
        simp only [TI.mk.injEq] at h3
        obtain ⟨e, rfl⟩ := sh_pointer h3.2.2.2.2.symm
        exact rd_bin_nil ho h2 hx hy h
      · cases h
    · simp only [VR] at hx hy
      obtain ⟨b, c, _, hx⟩ := hx
      split at h
      · rename_i ti hti
        obtain ⟨i, d, h1, h2, h3⟩ := tiOf_info hti
        simp only [TI.mk.injEq] at h3
        obtain ⟨e, rfl⟩ := sh_pointer h3.2.2.2.2.symm
        exact rd_bin_nil ho h2 hx hy h
      · cases h
    · simp only [VR] at hx hy
      obtain ⟨b, c, _, hx, _⟩ := hx
      split at h
      · rename_i ti hti
        obtain ⟨i, d, h1, h2, h3⟩ := tiOf_info hti
        simp only [TI.mk.injEq] at h3
        obtain ⟨e, rfl⟩ := sh_pointer h3.2.2.2.2.symm
        exact rd_bin_nil ho h2 hx hy h
      · cases h
    · rename_i cs ds
      split at h
      · rename_i ti hti
        obtain ⟨i, d, h1, h2, h3⟩ := tiOf_info hti
        simp only [TI.mk.injEq] at h3
        obtain ⟨gs, rfl, _, h4, _⟩ := sh_struct h3.2.2.2.2.symm
        split at h4
        · cases h4
        · rename_i hns
          simp only [Bool.or_eq_true, not_or, Bool.not_eq_true] at hns
          cases hc : cellsEq _ cs ds with
          | none => rw [hc] at h; simp at h
          | some r =>
            rw [hc] at h
            simp only [Option.bind_some] at h
            simp only [VR] at hx hy
            obtain ⟨xs, hx, hxs⟩ := hx
            obtain ⟨ys, hy, hys⟩ := hy
            have hf : P.fieldsOf t = gs := by simp [Program.fieldsOf, h2]
            have hrun := run_equalIn_struct (P := P) w 9999 t xs.toArray ys.toArray (by rw [hf]; exact h2) hns.1
            rw [hf, run_eqFields 9998 gs.toList 0 _ cs ds r h4.symm hc
              (fun i c hi => by obtain ⟨z, hz, hr⟩ := hxs.get hi; exact ⟨z, by simpa using hz, hr⟩)
              (fun i c hi => by obtain ⟨z, hz, hr⟩ := hys.get hi; exact ⟨z, by simpa using hz, hr⟩)] at hrun
            have hg : (eqGuard op t x y (.agg xs.toArray) (.agg ys.toArray)).run P w = .ok () w := run_eqGuard_agg w op t x y _ _ hns.2
            cases op <;> simp only [eqv] at h <;> first | (cases h; done) | skip
            · cases h
              refine ⟨.bool r, ?_, by simp only [VR]⟩
              have := run_eql_struct (P := P) w t xs.toArray ys.toArray
              rw [hrun] at this
              simp [execOp, ho, hx, hy, hg, this]
            · cases h
              refine ⟨.bool (!r), ?_, by simp only [VR]⟩
              have := run_neq_struct (P := P) w t xs.toArray ys.toArray
              rw [hrun] at this
              simp [execOp, ho, hx, hy, hg, this]
      · cases h
    · cases h
  · cases h

end Go.Am
