/-
  One rule for each operation, for walks that are printed: what it comes to, with what has to be known for it.
-/
import Derived.Test.YtbmlendfheakeaaGreatAmL
namespace Go.Am

variable {P : Program} {ops : Array Oper} {rest : List Oper} {o : Oper} {K : Env → St → Prop} {env : Env} {σ : St} {V : AV → St → Prop}

/-! ### Along a region -/

theorem R.op (hg : guardA ops env o = some true) (h : act P env σ o.op fun v σ' => arun P ops rest K (env.put o.dst v) σ') : arun P ops (o :: rest) K env σ := by
  simp only [arun, hg, if_true]; exact .inl <| act_mono (fun v σ' hh => ⟨v, σ', Le.refl v, StLe.refl σ', hh⟩) h

/-- With what a region may do beside. -/
theorem R.opX (hg : guardA ops env o = some true) (h : actX P env σ o.op fun v σ' => arun P ops rest K (env.put o.dst v) σ') : arun P ops (o :: rest) K env σ := by
  simp only [arun, hg, if_true]; exact actX_mono (fun v σ' hh => ⟨v, σ', Le.refl v, StLe.refl σ', hh⟩) h

/-- With less kept of the value. -/
theorem R.opLe (hg : guardA ops env o = some true) (h : act P env σ o.op fun u σ' => ∃ v, Le u v ∧ arun P ops rest K (env.put o.dst v) σ') : arun P ops (o :: rest) K env σ := by
  simp only [arun, hg, if_true]; exact .inl <| act_mono (fun u σ' ⟨v, h1, h2⟩ => ⟨v, σ', h1, StLe.refl σ', h2⟩) h
/-- With less kept of the store. -/
theorem R.opSt (hg : guardA ops env o = some true) (h : act P env σ o.op fun v σ1 => ∃ σ', StLe σ1 σ' ∧ arun P ops rest K (env.put o.dst v) σ') : arun P ops (o :: rest) K env σ := by
  simp only [arun, hg, if_true]; exact .inl <| act_mono (fun v σ1 ⟨σ', h1, h2⟩ => ⟨v, σ', Le.refl v, h1, h2⟩) h

theorem R.go (b : Bool) (hg : guardA ops env o = some (b == true)) (hb : b = true) (h : act P env σ o.op fun v σ' => arun P ops rest K (env.put o.dst v) σ') : arun P ops (o :: rest) K env σ :=
  R.op (by rw [hg, hb]; rfl) h
theorem R.gof (b : Bool) (hg : guardA ops env o = some (b == false)) (hb : b = false) (h : act P env σ o.op fun v σ' => arun P ops rest K (env.put o.dst v) σ') : arun P ops (o :: rest) K env σ :=
  R.op (by rw [hg, hb]; rfl) h
theorem R.no (hg : guardA ops env o = some false) (h : arun P ops rest K (env.put o.dst (.tup [])) σ) : arun P ops (o :: rest) K env σ := by
  simp only [arun, hg, Bool.false_eq_true, if_false]; exact h
theorem R.not (b : Bool) (hg : guardA ops env o = some (b == true)) (hb : b = false) (h : arun P ops rest K (env.put o.dst (.tup [])) σ) : arun P ops (o :: rest) K env σ :=
  R.no (by rw [hg, hb]; rfl) h
theorem R.notf (b : Bool) (hg : guardA ops env o = some (b == false)) (hb : b = true) (h : arun P ops rest K (env.put o.dst (.tup [])) σ) : arun P ops (o :: rest) K env σ :=
  R.no (by rw [hg, hb]; rfl) h
theorem R.done (h : K env σ) : arun P ops [] K env σ := h

/-! ### In a statement whose order is open -/

section
variable {W : List (Nat × (AObj → Prop))} {L : List (Nat × Bool)} {i : Nat}

theorem gT (b : Bool) (hg : guardA ops env o = some (b == true)) (hb : b = true) : guardA ops env o = some true := by rw [hg, hb]; rfl
theorem gTn (b : Bool) (hg : guardA ops env o = some (b == true)) (hb : b = false) : guardA ops env o = some false := by rw [hg, hb]; rfl
theorem D.op (ho : ops[i]? = some o) (hg : guardA ops env o = some true) (h : act P env σ o.op fun v σ' => drun P ops W L K (env.put o.dst v) σ') : drun P ops W ((i, false) :: L) K env σ := by
  simp only [drun, opF, ho, hg]
  exact ⟨fun hf => by simp at hf, act_mono (fun v s hh => ⟨fun hf => by simp at hf, v, Lew.refl _ _, hh⟩) h⟩
theorem D.opLe (ho : ops[i]? = some o) (hg : guardA ops env o = some true) (hc : (clsOf o.op != .alloc) = true) (h : act P env σ o.op fun u σ' => ∃ v, Le u v ∧ drun P ops W L K (env.put o.dst v) σ') : drun P ops W ((i, false) :: L) K env σ := by
  simp only [drun, opF, ho, hg]
  exact ⟨fun hf => by simp at hf, act_mono (fun v s ⟨w, h1, h2⟩ => ⟨fun hf => by simp at hf, w, ⟨h1, fun hh => by rw [hh] at hc; simp at hc⟩, h2⟩) h⟩
theorem D.no {f : Bool} (ho : ops[i]? = some o) (hg : guardA ops env o = some false) (h : drun P ops W L K (env.put o.dst (.tup [])) σ) : drun P ops W ((i, f) :: L) K env σ := by
  simp only [drun, opF, ho, hg]; exact h
theorem D.rd (ho : ops[i]? = some o) (hg : guardA ops env o = some true) (hw : Wat W σ) (hl : ∀ σ', Wat W σ' → qv P env σ' o.op = qv P env σ o.op) (hc : clsOf o.op = .reads) (h : act P env σ o.op fun v σ' => drun P ops W L K (env.put o.dst v) σ') : drun P ops W ((i, true) :: L) K env σ := by
  simp only [drun, opF, ho, hg]
  refine ⟨fun _ => ⟨hw, fun _ => hl⟩, ?_⟩
  rw [act_quiet (.inr hc)] at h ⊢
  obtain ⟨v, hv, hk⟩ := h
  exact ⟨v, hv, fun _ => hw, v, Lew.refl _ _, hk⟩
theorem D.wk (ho : ops[i]? = some o) (hg : guardA ops env o = some true) (hw : Wat W σ) (hc : (clsOf o.op != .reads) = true) (h : act P env σ o.op fun v σ' => Wat W σ' ∧ drun P ops W L K (env.put o.dst v) σ') : drun P ops W ((i, true) :: L) K env σ := by
  simp only [drun, opF, ho, hg]
  exact ⟨fun _ => ⟨hw, fun hh => by rw [hh] at hc; simp at hc⟩, act_mono (fun v s hh => ⟨fun _ => hh.1, v, Lew.refl _ _, hh.2⟩) h⟩
theorem D.done (h : K env σ) : drun P ops W [] K env σ := h

/-- A cell that is watched. -/
def wLod (ti : TI) (off : Nat) (v : AV) : AObj → Prop := fun o => ∃ cs, o = .cells cs ∧ lod ti cs off = some v
theorem lk_load {t : TypeId} {x : Operand} {a off : Nat} {ti : TI} {v : AV} (h1 : tiOf P t = some ti) (hx : opd env x = some (.ptr a off)) (hw : Wat W σ) (hm : (a, wLod ti off v) ∈ W) : ∀ σ', Wat W σ' → qv P env σ' (.load t x) = qv P env σ (.load t x) := by
  have one : ∀ σ', Wat W σ' → qv P env σ' (.load t x) = some v := fun σ' h => by
    obtain ⟨o, h2, cs, h3, h4⟩ := h _ hm
    simp only [qv, rd, h1, hx, h2, h3, h4]
  exact fun σ' h => by rw [one σ' h, one σ hw]
theorem lk_iptr {t : TypeId} {x : Operand} {cs : List AV} {off : Nat} (hx : opd env x = some (.iptr cs off)) : ∀ σ', Wat W σ' → qv P env σ' (.load t x) = qv P env σ (.load t x) := fun σ' _ => by
  simp only [qv, rd, hx]
  cases tiOf P t <;> rfl
theorem wat_nil : Wat [] σ := fun _ h => by cases h
theorem wat_lod {a off : Nat} {ti : TI} {v : AV} {cs : List AV} (hσ : σ a = some (.cells cs)) (hv : lod ti cs off = some v) (h : Wat W σ) : Wat ((a, wLod ti off v) :: W) σ := fun x hx => by
  simp only [List.mem_cons] at hx
  rcases hx with rfl | hx
  · exact ⟨_, hσ, _, rfl, hv⟩
  · exact h x hx
end

/-- A statement whose order is open, in the order that is told. -/
def allocTys (ts : List TypeId) (ops : List Oper) : Bool := ops.all fun o => match o.op with
  | .alloc t => ts.contains t
  | .makeMap _ none => true
  | op => clsOf op != .alloc

theorem allocs_of {ts : List TypeId} {l : List Oper} (h : allocTys ts l = true) (ht : ∀ t ∈ ts, ∃ ti z, tiOf P t = some ti ∧ ti.zero = some z) : ∀ o ∈ l, clsOf o.op = .alloc → (allocOf P o.op).isSome = true := fun o ho hc => by
  have h1 := List.all_eq_true.1 h o ho
  split at h1
  · rename_i t heq
    obtain ⟨ti, z, h2, h3⟩ := ht t (by simpa using h1)
    obtain ⟨_, _, _, _, _⟩ := ti
    subst h3
    simp [heq, allocOf, h2]
  · rename_i t heq; simp [heq, allocOf]
  · rw [hc] at h1; simp at h1

theorem SW.draw' {n : Nat} {Q : AQ} {id : Nat} (hm : P.follows .mixedOrders = true) (L : List (Nat × Bool)) (W : List (Nat × (AObj → Prop))) (ts : List TypeId) (h1 : okOrder ops L = true) (h2 : allocTys ts ops.toList = true) (h3 : ∀ t ∈ ts, ∃ ti z, tiOf P t = some ti ∧ ti.zero = some z)
    (h : drun P ops W L (Q .normal) env σ) : SW P n (.region id ops true) Q env σ := SW.draw hm ⟨L, W, h1, allocs_of h2 h3, h⟩

/-! ### Frames -/

/-- What a slice's token names. -/
def tkNames : Tk → List Nat
  | .own i => [i]
  | _ => []

/-- A slice of so many elements may be appended to. -/
def TokOk (σ : St) (tk : Tk) (n sz : Nat) : Prop :=
  match tk with
  | .full => True
  | .own i => σ i = some (.tok n sz)
  | .no => False

/-- All that was there is there as it was, but for some names. -/
def Fr (σ σ' : St) (M : List Nat) : Prop := ∀ j, σ j ≠ none → j ∉ M → σ' j = σ j

theorem Fr.refl (σ : St) (M : List Nat) : Fr σ σ M := fun _ _ _ => rfl
theorem Fr.trans {σ' σ'' : St} {M M' : List Nat} (h : Fr σ σ' M) (h' : Fr σ' σ'' M') (hm : ∀ j ∈ M', σ j ≠ none → j ∈ M) : Fr σ σ'' M := fun j hj hn => by
  have h1 := h j hj hn
  have h2 := h' j (by rw [h1]; exact hj) (fun hh => hn (hm j hh hj))
  rw [h2, h1]
theorem Fr.set {σ' : St} {M : List Nat} {id : Nat} {x : Option AObj} (h : Fr σ σ' M) (hi : σ id = none ∨ id ∈ M) : Fr σ (σ'.set id x) M := fun j hj hn => by
  have : j ≠ id := by
    rintro rfl
    rcases hi with h1 | h1
    · exact hj h1
    · exact hn h1
  rw [St.set_ne _ _ this]; exact h j hj hn

theorem ne_new {i j : Nat} {x : AObj} (hi : σ i = none) (hj : σ j = some x) : j ≠ i := by
  rintro rfl; rw [hi] at hj; cases hj
/-! ### Operations -/

theorem a_move {x : Operand} {v : AV} (h : opd env x = some v) (k : V v σ) : act P env σ (.move x) V := by
  simp only [act, rd, h]; exact k
theorem a_assign {x : Operand} {v : AV} (h : opd env x = some v) (k : V v σ) : act P env σ (.assign x) V := by
  simp only [act, rd, h]; exact k
theorem a_pickT {c x y : Operand} {b : Bool} {v : AV} (hc : opd env c = some (.bool b)) (hb : b = true) (h : opd env x = some v) (k : V v σ) : act P env σ (.pick c x y) V := by
  simp only [act, rd, hc, hb, if_true, h]; exact k
theorem a_pickF {c x y : Operand} {b : Bool} {v : AV} (hc : opd env c = some (.bool b)) (hb : b = false) (h : opd env y = some v) (k : V v σ) : act P env σ (.pick c x y) V := by
  simp only [act, rd, hc, hb, Bool.false_eq_true, if_false, h]; exact k
theorem a_nilPtr {x : Operand} {i off : Nat} (h : opd env x = some (.ptr i off)) (k : V (.ptr i off) σ) : act P env σ (.nilCheck x) V := by
  simp only [act, rd, h]; exact k
theorem a_int {op : BinOp} {t q : TypeId} {x y : Operand} {kd : IntKind} {a b : Int} {v : AV} (hx : opd env x = some (.int kd a)) (hy : opd env y = some (.int kd b)) (h : intBin op kd a b = some v) (k : V v σ) : act P env σ (.binOp op t x y q) V := by
  simp only [act, rd, hx, hy, bin, if_true, h]; exact k
theorem a_str {op : BinOp} {t q : TypeId} {x y : Operand} {a b : ByteArray} {v : AV} (hx : opd env x = some (.str a)) (hy : opd env y = some (.str b)) (h : strBin op a b = some v) (k : V v σ) : act P env σ (.binOp op t x y q) V := by
  simp only [act, rd, hx, hy, bin, h]; exact k
theorem a_bin {op : BinOp} {t q : TypeId} {x y : Operand} {a b v : AV} (hx : opd env x = some a) (hy : opd env y = some b) (h : bin P op t a b = some v) (k : V v σ) : act P env σ (.binOp op t x y q) V := by
  simp only [act, rd, hx, hy, h]; exact k
theorem a_not {t : TypeId} {x : Operand} {b : Bool} (h : opd env x = some (.bool b)) (k : V (.bool (!b)) σ) : act P env σ (.unOp .not t x) V := by
  simp only [act, rd, h]; exact k
theorem a_neg {t : TypeId} {x : Operand} {kd : IntKind} {n : Int} (h : opd env x = some (.int kd n)) (k : V (.int kd (kd.wrap (0 - n))) σ) : act P env σ (.unOp .neg t x) V := by
  simp only [act, rd, h]; exact k
theorem a_convInt {s d : TypeId} {x : Operand} {ts td : TI} {k1 k2 kd : IntKind} {n : Int} (h1 : tiOf P s = some ts) (h2 : tiOf P d = some td) (h3 : ts.sh = .int k1) (h4 : td.sh = .int k2) (h : opd env x = some (.int kd n))
    (k : V (.int k2 (k2.wrap n)) σ) : act P env σ (.convert s d x) V := by
  obtain ⟨_, _, _, _, s1⟩ := ts
  obtain ⟨_, _, _, _, s2⟩ := td
  subst h3 h4
  simp only [act, rd, h1, h2, h]; exact k
theorem byteList_map : ∀ ns : List Int, byteList (ns.map (AV.int .u8)) = some ns
  | [] => rfl
  | n :: ns => by simp only [List.map_cons, byteList, byteList_map ns, Option.map_some]
theorem a_convBytes {s d e : TypeId} {x : Operand} {ts td te : TI} {ns : List Int} {tk : Tk} (h1 : tiOf P s = some ts) (h2 : tiOf P d = some td) (h3 : ts.sh = .slice e) (h4 : td.sh = .string) (h5 : tiOf P e = some te) (h6 : te.sh = .int .u8)
    (h : opd env x = some (.imm 1 (ns.map (AV.int .u8)) tk)) (k : V (.str (bytesStr ns)) σ) : act P env σ (.convert s d x) V := by
  obtain ⟨_, _, _, _, s1⟩ := ts
  obtain ⟨_, _, _, _, s2⟩ := td
  obtain ⟨_, _, _, _, s3⟩ := te
  subst h3 h4 h6
  simp only [act, rd, h1, h2, h, h5, byteList_map]; exact k
theorem a_fieldS {t : TypeId} {x : Operand} {f : Nat} {ti : TI} {fs : List (Nat × Nat × Bool)} {eq : Option (List EqK)} {cs : List AV} {off sz : Nat} {v : AV} (h1 : tiOf P t = some ti) (h2 : ti.sh = .struct fs eq) (h : opd env x = some (.agg cs))
    (hf : fs[f]? = some (off, sz, false)) (hv : cs[off]? = some v) (k : V v σ) : act P env σ (.field t x f) V := by
  obtain ⟨_, _, _, _, s1⟩ := ti
  subst h2
  simp only [act, rd, h1, h, hf, hv]; exact k
theorem a_fieldPtr {t : TypeId} {x : Operand} {f : Nat} {ti : TI} {fs : List (Nat × Nat × Bool)} {eq : Option (List EqK)} {id o off sz : Nat} {ag : Bool} (h1 : tiOf P t = some ti) (h2 : ti.sh = .struct fs eq) (h : opd env x = some (.ptr id o))
    (hf : fs[f]? = some (off, sz, ag)) (hz : sz ≠ 0) (k : V (.ptr id (o + off)) σ) : act P env σ (.fieldAddr t x f) V := by
  obtain ⟨_, _, _, _, s1⟩ := ti
  subst h2
  simp only [act, rd, h1, h, hf, hz, if_false]; exact k
theorem a_fieldIptr {t : TypeId} {x : Operand} {f : Nat} {ti : TI} {fs : List (Nat × Nat × Bool)} {eq : Option (List EqK)} {cs : List AV} {o off sz : Nat} {ag : Bool} (h1 : tiOf P t = some ti) (h2 : ti.sh = .struct fs eq) (h : opd env x = some (.iptr cs o))
    (hf : fs[f]? = some (off, sz, ag)) (hz : sz ≠ 0) (k : V (.iptr cs (o + off)) σ) : act P env σ (.fieldAddr t x f) V := by
  obtain ⟨_, _, _, _, s1⟩ := ti
  subst h2
  simp only [act, rd, h1, h, hf, hz, if_false]; exact k
theorem a_idxImm {α : Type} {f : α → AV} {xs : List α} {t et : TypeId} {x i : Operand} {ti te : TI} {sz : Nat} {tk : Tk} {kd : IntKind} {n : Int} {e : α} {v : AV} (h1 : tiOf P t = some ti) (h2 : ti.sh = .slice et) (h3 : tiOf P et = some te) (hs : te.sz = sz)
    (hx : opd env x = some (.imm sz (xs.map f) tk)) (hi : opd env i = some (.int kd n)) (h0 : 0 ≤ n) (he : xs[n.toNat]? = some e) (hv : f e = v) (k : V (.iptr v.cells 0) σ) : act P env σ (.indexAddr t x i) V := by
  obtain ⟨_, _, _, _, s1⟩ := ti
  subst h2 hs hv
  have hlt : n.toNat < xs.length := by
    rcases Nat.lt_or_ge n.toNat xs.length with h | h
    · exact h
    · rw [List.getElem?_eq_none h] at he; cases he
  have hc : 0 ≤ n ∧ n < ((xs.map f).length : Nat) ∧ True := ⟨h0, by simp; omega, trivial⟩
  have he' : (xs.map f)[n.toNat]? = some (f e) := by simp [he]
  simp only [act, rd, h1, hx, hi, elemSz, h3, Option.map_some, indexA, if_pos hc, he']; exact k
theorem a_idxStr {t : TypeId} {x i : Operand} {ti : TI} {kd : IntKind} {n : Int} {s : ByteArray} {b : UInt8} (h1 : tiOf P t = some ti) (h2 : ti.sh = .string) (hx : opd env x = some (.str s)) (hi : opd env i = some (.int kd n)) (h0 : 0 ≤ n)
    (hb : s.data[n.toNat]? = some b) (k : V (.int .u8 b.toNat) σ) : act P env σ (.index t x i) V := by
  obtain ⟨_, _, _, _, s1⟩ := ti
  subst h2
  simp only [act, rd, h1, hx, hi, if_pos h0, hb]; exact k
theorem a_loadPtr {t : TypeId} {x : Operand} {ti : TI} {id off : Nat} {cs : List AV} {v : AV} (h1 : tiOf P t = some ti) (hx : opd env x = some (.ptr id off)) (hσ : σ id = some (.cells cs)) (hv : lod ti cs off = some v) (k : V v σ) : act P env σ (.load t x) V := by
  simp only [act, rd, h1, hx, hσ, hv]; exact k
theorem a_loadIptr {t : TypeId} {x : Operand} {ti : TI} {off : Nat} {cs : List AV} {v : AV} (h1 : tiOf P t = some ti) (hx : opd env x = some (.iptr cs off)) (hv : lod ti cs off = some v) (k : V v σ) : act P env σ (.load t x) V := by
  simp only [act, rd, h1, hx, hv]; exact k
theorem a_extract {x : Operand} {i : Nat} {vs : List AV} {v : AV} (hx : opd env x = some (.tup vs)) (hv : vs[i]? = some v) (k : V v σ) : act P env σ (.extract x i) V := by
  simp only [act, rd, hx, hv]; exact k
theorem a_build {t : TypeId} {ps : Array (Nat × Operand)} {ti : TI} {fs : List (Nat × Nat × Bool)} {eq : Option (List EqK)} {z cs : List AV} {as : List (Nat × AV)} (h1 : tiOf P t = some ti) (h2 : ti.sh = .struct fs eq) (h3 : ti.zero = some (.agg z))
    (hp : parts env ps.toList = some as) (hf : fillA fs z as = some cs) (k : V (.agg cs) σ) : act P env σ (.build t ps) V := by
  obtain ⟨_, _, _, _, s1⟩ := ti
  subst h2 h3
  simp only [act, rd, h1, hp, hf, Option.map_some]; exact k
theorem a_makeFunc {g : FuncId} {fi ca : Array Operand} {cs : List AV} (h1 : fi.size = 0) (h : opds env ca.toList = some cs) (k : V (.fn g cs) σ) : act P env σ (.makeFunc (.func g) fi ca) V := by
  simp only [act, rd, h1, if_true, h, Option.map_some]; exact k
theorem a_lenImm {x : Operand} {t : TypeId} {ti : TI} {e : TypeId} {sz : Nat} {es : List AV} {tk : Tk} (h1 : tiOf P t = some ti) (h2 : ti.sh = .slice e) (h : opd env x = some (.imm sz es tk)) {n : Int} (hn : (es.length : Int) = n) (k : V (.int .i64 n) σ) :
    act P env σ (.call { callee := .builtin .len, args := #[x], argTypes := #[t] }) V := by
  obtain ⟨_, _, _, _, s1⟩ := ti
  subst h2 hn
  simp only [act, rd, h1, h]; exact k
theorem a_lenStr {x : Operand} {t : TypeId} {ti : TI} {s : ByteArray} (h1 : tiOf P t = some ti) (h2 : ti.sh = .string) (h : opd env x = some (.str s)) (k : V (.int .i64 s.size) σ) :
    act P env σ (.call { callee := .builtin .len, args := #[x], argTypes := #[t] }) V := by
  obtain ⟨_, _, _, _, s1⟩ := ti
  subst h2
  simp only [act, rd, h1, h]; exact k

def lowV (env : Env) (lo : Option Operand) : Option Nat := match opdO env lo with
  | some v => lowB v
  | none => none
def highV (env : Env) (len : Nat) (hi : Option Operand) : Option Nat := match opdO env hi with
  | some v => highB len v
  | none => none
theorem opdO_none : opdO env none = some none := rfl
theorem lowN : lowV env none = some 0 := rfl
theorem highN {len : Nat} : highV env len none = some len := rfl
theorem lowS {x : Operand} {k : IntKind} {n : Int} (hx : opd env x = some (.int k n)) (h0 : 0 ≤ n) : lowV env (some x) = some n.toNat := by simp only [lowV, opdO, hx, lowB, if_pos h0]
theorem highS {x : Operand} {len : Nat} {k : IntKind} {n : Int} (hx : opd env x = some (.int k n)) (h0 : 0 ≤ n) : highV env len (some x) = some n.toNat := by simp only [highV, opdO, hx, highB, if_pos h0]

theorem a_sliceStr {t : TypeId} {x : Operand} {lo hi : Option Operand} {ti : TI} {s : ByteArray} {l h : Nat} (h1 : tiOf P t = some ti) (h2 : ti.sh = .string) (hx : opd env x = some (.str s)) (hl : lowV env lo = some l) (hh : highV env s.size hi = some h)
    (c1 : l ≤ h) (c2 : h ≤ s.size) (k : V (.str (s.extract l h)) σ) : act P env σ (.slice t x lo hi none) V := by
  obtain ⟨_, _, _, _, s1⟩ := ti
  subst h2
  unfold lowV at hl; unfold highV at hh
  split at hl
  · rename_i lv hlv
    split at hh
    · rename_i hv hhv
      simp only [act, rd, h1, hx, opdO_none, elemSz, hlv, hhv, sliced, hl, hh, if_pos (And.intro c1 c2)]; exact k
    · cases hh
  · cases hl
theorem a_sliceImm {α : Type} {f : α → AV} {xs : List α} {t et : TypeId} {x : Operand} {lo hi : Option Operand} {ti te : TI} {sz : Nat} {tk : Tk} {l h : Nat} (h1 : tiOf P t = some ti) (h2 : ti.sh = .slice et) (h3 : tiOf P et = some te) (hs : te.sz = sz)
    (hx : opd env x = some (.imm sz (xs.map f) tk)) (hl : lowV env lo = some l) (hh : highV env xs.length hi = some h)
    (c1 : l ≤ h) (c2 : h ≤ xs.length) (k : V (.imm sz (((xs.drop l).take (h - l)).map f) .no) σ) : act P env σ (.slice t x lo hi none) V := by
  obtain ⟨_, _, _, _, s1⟩ := ti
  subst h2 hs
  unfold lowV at hl; unfold highV at hh
  have hc : l ≤ h ∧ h ≤ (xs.map f).length ∧ (True ∨ xs.map f = []) := ⟨c1, by simpa using c2, .inl trivial⟩
  split at hl
  · rename_i lv hlv
    split at hh
    · rename_i hv hhv
      have hh' : highB (xs.map f).length hv = some h := by simpa using hh
      rw [List.map_take, List.map_drop] at k
      simp only [act, rd, h1, hx, opdO_none, elemSz, h3, Option.map_some, hlv, hhv, sliced, hl, hh', if_pos hc]; exact k
    · cases hh
  · cases hl
theorem a_clip {α : Type} {f : α → AV} {xs : List α} {t et : TypeId} {x hi mx : Operand} {lo : Option Operand} {ti te : TI} {sz : Nat} {tk : Tk} {l : Nat} {n : Int} {k1 k2 : IntKind} (h1 : tiOf P t = some ti) (h2 : ti.sh = .slice et) (h3 : tiOf P et = some te) (hs : te.sz = sz)
    (hx : opd env x = some (.imm sz (xs.map f) tk)) (hl : lowV env lo = some l) (hh : opd env hi = some (.int k1 n)) (hm : opd env mx = some (.int k2 n)) (h0 : 0 ≤ n)
    (c1 : l ≤ n.toNat) (c2 : n.toNat ≤ xs.length) (k : V (.imm sz (((xs.drop l).take (n.toNat - l)).map f) .full) σ) : act P env σ (.slice t x lo (some hi) (some mx)) V := by
  obtain ⟨_, _, _, _, s1⟩ := ti
  subst h2 hs
  unfold lowV at hl
  have hc : l ≤ n.toNat ∧ n.toNat ≤ (xs.map f).length ∧ (True ∨ xs.map f = []) ∧ n = (n.toNat : Int) ∧ (some (AV.int k1 n)).isSome = true := ⟨c1, by simpa using c2, .inl trivial, by omega, rfl⟩
  split at hl
  · rename_i lv hlv
    have hh' : highB (xs.map f).length (some (.int k1 n)) = some n.toNat := by simp only [highB, if_pos h0]
    have e1 : opdO env (some hi) = some (some (.int k1 n)) := by simp only [opdO, hh]
    have e2 : opdO env (some mx) = some (some (.int k2 n)) := by simp only [opdO, hm]
    rw [List.map_take, List.map_drop] at k
    simp only [act, rd, h1, hx, elemSz, h3, Option.map_some, e1, e2, hlv, sliced, hl, hh', if_pos hc]; exact k
  · cases hl

/-! ### Operations that change the store -/

theorem a_box {t : TypeId} {x : Operand} {v : AV} (h : opd env x = some v) (hs : v.cells.all AV.sc = true) (k : ∀ id σ', σ id = none → σ' id = some (.cells v.cells) → Fr σ σ' [] → V (.ptr id 0) σ') : act P env σ (.box t x) V := by
  simp only [act, h]
  exact ⟨hs, fun id hid => k id _ hid (St.set_same _ _ _) ((Fr.refl σ []).set (.inl hid))⟩
theorem a_alloc {t : TypeId} {ti : TI} {z : AV} (h1 : tiOf P t = some ti) (h2 : ti.zero = some z) (k : ∀ id σ', σ id = none → σ' id = some (.cells z.cells) → Fr σ σ' [] → V (.ptr id 0) σ') : act P env σ (.alloc t) V := by
  obtain ⟨_, _, _, _, s1⟩ := ti
  subst h2
  simp only [act, h1]
  exact fun id hid => k id _ hid (St.set_same _ _ _) ((Fr.refl σ []).set (.inl hid))
/-- A zero variable, in other words. -/
theorem R.allocLe {t : TypeId} {ti : TI} {z : AV} {cs : List AV} {d : Option Tmp} {ty : TypeId} {pos : String} {af : Array Edge} (h1 : tiOf P t = some ti) (h2 : ti.zero = some z) (hl : LeL z.cells cs)
    (k : ∀ id σ', σ id = none → σ' id = some (.cells cs) → Fr σ σ' [] → arun P ops rest K (env.put d (.ptr id 0)) σ') : arun P ops ({ dst := d, op := .alloc t, type := ty, pos := pos, after := af, guard := none } :: rest) K env σ := by
  obtain ⟨_, _, _, _, s1⟩ := ti
  subst h2
  refine R.opSt rfl ?_
  simp only [act, h1]
  refine fun id hid => ⟨σ.set id (some (.cells cs)), fun j o ho => ?_, k id _ hid (St.set_same _ _ _) ((Fr.refl σ []).set (.inl hid))⟩
  by_cases hj : j = id
  · subst hj
    rw [St.set_same] at ho; cases ho
    exact ⟨_, St.set_same _ _ _, hl⟩
  · rw [St.set_ne _ _ hj] at ho
    exact ⟨o, by rw [St.set_ne _ _ hj]; exact ho, OLe.refl o⟩
/-- Written, in other words. -/
theorem R.storeLe {t : TypeId} {x y : Operand} {ti : TI} {id off : Nat} {v : AV} {cs cs' : List AV} {d : Option Tmp} {ty : TypeId} {pos : String} {af : Array Edge} (h1 : tiOf P t = some ti) (hx : opd env x = some (.ptr id off)) (hy : opd env y = some v) (hσ : σ id = some (.cells cs))
    (hz : v.cells.length = ti.sz) (hl : off + ti.sz ≤ cs.length) (hs : v.cells.all AV.sc = true) (hc : LeL (splice cs off v.cells) cs') (k : ∀ σ', σ' id = some (.cells cs') → Fr σ σ' [id] → arun P ops rest K (env.put d (.tup [])) σ') :
    arun P ops ({ dst := d, op := .store t x y, type := ty, pos := pos, after := af, guard := none } :: rest) K env σ := by
  refine R.opSt rfl ?_
  simp only [act, h1, hx, hy, hσ]
  refine ⟨hz, hl, hs, σ.set id (some (.cells cs')), fun j o ho => ?_, k _ (St.set_same _ _ _) ((Fr.refl σ [id]).set (.inr (by simp)))⟩
  by_cases hj : j = id
  · subst hj
    rw [St.set_same] at ho; cases ho
    exact ⟨_, St.set_same _ _ _, hc⟩
  · rw [St.set_ne _ _ hj] at ho
    exact ⟨o, by rw [St.set_ne _ _ hj]; exact ho, OLe.refl o⟩
theorem a_makeMap {t : TypeId} (k : ∀ id σ', σ id = none → σ' id = some (.map []) → Fr σ σ' [] → V (.mp id) σ') : act P env σ (.makeMap t none) V := by
  simp only [act]
  exact fun id hid => k id _ hid (St.set_same _ _ _) ((Fr.refl σ []).set (.inl hid))
theorem a_store {t : TypeId} {x y : Operand} {ti : TI} {id off : Nat} {v : AV} {cs cs' : List AV} (h1 : tiOf P t = some ti) (hx : opd env x = some (.ptr id off)) (hy : opd env y = some v) (hσ : σ id = some (.cells cs))
    (hz : v.cells.length = ti.sz) (hl : off + ti.sz ≤ cs.length) (hs : v.cells.all AV.sc = true) (hc : splice cs off v.cells = cs') (k : ∀ σ', σ' id = some (.cells cs') → Fr σ σ' [id] → V (.tup []) σ') : act P env σ (.store t x y) V := by
  subst hc
  simp only [act, h1, hx, hy, hσ]
  exact ⟨hz, hl, hs, k _ (St.set_same _ _ _) ((Fr.refl σ [id]).set (.inr (by simp)))⟩
theorem a_buildSlice {t : TypeId} {len : Nat} {ps : Array (Nat × Operand)} {v : AV} (h : bsv P env t len ps = some v) (k : V v σ) : act P env σ (.buildSlice t len ps) V := by
  simp only [act, h]; exact k
theorem a_call {f : Operand} {args : Array Operand} {ts : Array TypeId} {g : FuncId} {caps as : List AV} (hf : opd env f = some (.fn g caps)) (ha : opds env args.toList = some as) (k : AC P g (as ++ caps) σ V) :
    act P env σ (.call { callee := .value f, args := args, argTypes := ts }) V := by
  simp only [act, hf, ha]; exact k

/-- Appending. -/
theorem a_append {s x : Operand} {t u e e' : TypeId} {tt tu te : TI} {z : AV} {s1 s2 : Nat} {es ds rs : List AV} {tk tk2 : Tk} (h1 : tiOf P t = some tt) (h2 : tt.sh = .slice e) (h3 : tiOf P u = some tu) (h4 : tu.sh = .slice e') (h5 : tiOf P e = some te)
    (hs : opd env s = some (.imm s1 es tk)) (hx : opd env x = some (.imm s2 ds tk2)) (hd : s2 = te.sz ∨ ds = []) (hz : te.zero = some z) (hzl : z.cells.length = te.sz) (h0 : 0 < te.sz) (hb : te.bytes ≤ 1024) (hlen : es.length + ds.length ≤ 4294967296)
    (hsz : s1 = te.sz ∨ es = []) (htk : TokOk σ tk es.length te.sz) (hr : es ++ ds = rs) (k : ∀ tk' σ', TokOk σ' tk' rs.length te.sz → Fr σ σ' (tkNames tk) → (∀ i ∈ tkNames tk', i ∈ tkNames tk ∨ σ i = none) → V (.imm te.sz rs tk') σ') :
    act P env σ (.call { callee := .builtin .append, args := #[s, x], argTypes := #[t, u] }) V := by
  obtain ⟨_, _, _, _, s1'⟩ := tt
  obtain ⟨_, _, _, _, s2'⟩ := tu
  subst h2 h4 hr
  have hsrc : srcOf σ te (.imm s2 ds tk2) = some ds := by simp only [srcOf, if_pos hd]
  simp only [act, h1, h3, hs, hx, h5, hsrc]
  refine ⟨h0, hb, ?_, hlen, hsz, fun hn => ?_, fun _ => .inl ⟨?_, fun id hid => ?_⟩⟩
  · simp only [hz]; exact hzl
  · subst hn
    have := k tk σ (by simpa using htk) (Fr.refl _ _) (fun i hi => .inl hi)
    simpa using this
  · cases tk with
    | no => exact htk.elim
    | full => rfl
    | own i =>
      have : σ i = some (.tok es.length te.sz) := htk
      simp [appendable, this]
  · refine k (.own id) _ (by simp only [TokOk, List.length_append]; exact St.set_same _ _ _) ?_ (fun i hi => ?_)
    · cases tk with
      | no => exact (Fr.refl σ _).set (.inl hid)
      | full => exact (Fr.refl σ _).set (.inl hid)
      | own i => exact ((Fr.refl σ [i]).set (.inr (by simp))).set (.inl hid)
    · simp only [tkNames, List.mem_singleton] at hi
      subst hi; exact .inr hid

/-- A slice's tail, which may be appended to. -/
theorem a_tail {α : Type} {f : α → AV} {xs : List α} {t e : TypeId} {x lo : Operand} {ti te : TI} {sz : Nat} {tk : Tk} {kd : IntKind} {n : Int} (h1 : tiOf P t = some ti) (h2 : ti.sh = .slice e) (h3 : tiOf P e = some te) (hs : te.sz = sz) (h0 : 0 < sz)
    (hx : opd env x = some (.imm sz (xs.map f) tk)) (hl : opd env lo = some (.int kd n)) (hn : 0 ≤ n) (hle : n.toNat ≤ xs.length) (htk : TokOk σ tk xs.length sz)
    (k : ∀ tk' σ', TokOk σ' tk' (xs.drop n.toNat).length sz → Fr σ σ' (tkNames tk) → (∀ i ∈ tkNames tk', i ∈ tkNames tk ∨ σ i = none) → V (.imm sz ((xs.drop n.toNat).map f) tk') σ') : actX P env σ (.slice t x (some lo) none none) V := by
  refine .inr ⟨t, x, lo, ti, te, e, sz, xs.map f, tk, kd, n, rfl, h1, h2, h3, hs, h0, hx, hl, hn, by simpa using hle, ?_⟩
  rw [← List.map_drop]
  cases tk with
  | no => exact htk.elim
  | full => exact .inl ⟨rfl, k .full σ trivial (Fr.refl _ _) (fun i hi => .inl hi)⟩
  | own i =>
    refine .inr ⟨i, rfl, by simpa [TokOk] using htk, k .full _ trivial ((Fr.refl σ [i]).set (.inr (by simp))) (fun j hj => by simp [tkNames] at hj), fun j hj => k (.own j) _ ?_ (((Fr.refl σ [i]).set (.inr (by simp))).set (.inl hj)) (fun q hq => ?_)⟩
    · simp only [TokOk, List.length_map, List.length_drop]; exact St.set_same _ _ _
    · simp only [tkNames, List.mem_singleton] at hq
      subst hq; exact .inr hj

theorem a_mapUpdate {t kt vt : TypeId} {m x y : Operand} {ti tk : TI} {id : Nat} {es es' : List (AV × AV)} {key v : AV} (h1 : tiOf P t = some ti) (h2 : ti.sh = .map kt vt) (h3 : tiOf P kt = some tk) (hm : opd env m = some (.mp id)) (hx : opd env x = some key) (hy : opd env y = some v)
    (hσ : σ id = some (.map es)) (hk : keyLike tk.sh key = true) (hks : es.all (fun e => keyLike tk.sh e.1) = true) (hs : mset key v es = es') (k : ∀ σ', σ' id = some (.map es') → Fr σ σ' [id] → V (.tup []) σ') : act P env σ (.mapUpdate t m x y) V := by
  obtain ⟨_, _, _, _, s1⟩ := ti
  subst h2 hs
  simp only [act, h1, hm, hx, hy, h3, hσ]
  exact ⟨hk, hks, k _ (St.set_same _ _ _) ((Fr.refl σ [id]).set (.inr (by simp)))⟩

/-! ### Maps with whole numbers for keys -/

def tfind {α : Type} (k : Int) : List (Int × α) → Option α
  | [] => none
  | e :: r => bif k == e.1 then some e.2 else tfind k r
def tset {α : Type} (k : Int) (v : α) : List (Int × α) → List (Int × α)
  | [] => [(k, v)]
  | e :: r => bif k == e.1 then (k, v) :: r else e :: tset k v r

theorem mfind_int {α : Type} {ev : α → AV} {kd : IntKind} {k : Int} : ∀ l : List (Int × α), mfind (.int kd k) (l.map fun e => (.int kd e.1, ev e.2)) = (tfind k l).map ev
  | [] => rfl
  | e :: r => by
    simp only [List.map_cons, mfind, tfind, keyEq, mfind_int r]
    cases k == e.1 <;> rfl
theorem mset_int {α : Type} {ev : α → AV} {kd : IntKind} {k : Int} {v : α} : ∀ l : List (Int × α), mset (.int kd k) (ev v) (l.map fun e => (.int kd e.1, ev e.2)) = (tset k v l).map fun e => (.int kd e.1, ev e.2)
  | [] => rfl
  | e :: r => by
    simp only [List.map_cons, mset, tset, keyEq, mset_int r]
    cases k == e.1 <;> rfl
theorem keys_int {α : Type} {ev : α → AV} {kd : IntKind} : ∀ l : List (Int × α), (l.map fun e => (AV.int kd e.1, ev e.2)).all (fun e => keyLike (.int kd) e.1) = true
  | [] => rfl
  | e :: r => by rw [List.map_cons, List.all_cons, keys_int r]; simp [keyLike]

theorem a_lookupInt {α : Type} {ev : α → AV} {kd : IntKind} {t kt vt : TypeId} {m x : Operand} {ti tk te : TI} {id : Nat} {l : List (Int × α)} {k : Int} {z : α} {v : AV} (h1 : tiOf P t = some ti) (h2 : ti.sh = .map kt vt) (h3 : tiOf P kt = some tk) (h4 : tk.sh = .int kd) (h5 : tiOf P vt = some te)
    (hz : te.zero = some (ev z)) (hm : opd env m = some (.mp id)) (hx : opd env x = some (.int kd k)) (hσ : σ id = some (.map (l.map fun e => (.int kd e.1, ev e.2)))) (hv : ev ((tfind k l).getD z) = v) (c : V (.tup [v, .bool (tfind k l).isSome]) σ) : act P env σ (.lookup t m x true) V := by
  obtain ⟨_, _, _, _, s1⟩ := ti
  obtain ⟨_, _, _, _, s2⟩ := tk
  obtain ⟨_, _, _, _, s3⟩ := te
  subst h2 h4 hz hv
  have hc : keyLike (Sh.int kd) (AV.int kd k) = true ∧ (l.map fun e => (AV.int kd e.1, ev e.2)).all (fun e => keyLike (.int kd) e.1) = true := ⟨by simp [keyLike], keys_int l⟩
  simp only [act, rd, h1, h3, h5, hm, hx, hσ, if_pos hc, mfind_int]
  cases hf : tfind k l with
  | none => simp only [hf, Option.map_none] at c ⊢; exact c
  | some y => simp only [hf, Option.map_some] at c ⊢; exact c
theorem a_lookupInt1 {α : Type} {ev : α → AV} {kd : IntKind} {t kt vt : TypeId} {m x : Operand} {ti tk te : TI} {id : Nat} {l : List (Int × α)} {k : Int} {z : α} {v : AV} (h1 : tiOf P t = some ti) (h2 : ti.sh = .map kt vt) (h3 : tiOf P kt = some tk) (h4 : tk.sh = .int kd) (h5 : tiOf P vt = some te)
    (hz : te.zero = some (ev z)) (hm : opd env m = some (.mp id)) (hx : opd env x = some (.int kd k)) (hσ : σ id = some (.map (l.map fun e => (.int kd e.1, ev e.2)))) (hv : ev ((tfind k l).getD z) = v) (c : V v σ) : act P env σ (.lookup t m x false) V := by
  obtain ⟨_, _, _, _, s1⟩ := ti
  obtain ⟨_, _, _, _, s2⟩ := tk
  obtain ⟨_, _, _, _, s3⟩ := te
  subst h2 h4 hz hv
  have hc : keyLike (Sh.int kd) (AV.int kd k) = true ∧ (l.map fun e => (AV.int kd e.1, ev e.2)).all (fun e => keyLike (.int kd) e.1) = true := ⟨by simp [keyLike], keys_int l⟩
  simp only [act, rd, h1, h3, h5, hm, hx, hσ, if_pos hc, mfind_int]
  cases hf : tfind k l with
  | none => simp only [hf, Option.map_none] at c ⊢; exact c
  | some y => simp only [hf, Option.map_some] at c ⊢; exact c

/-! ### Calls and ends -/

theorem AC.goP {f : FuncId} {as as' : List AV} {w : AV} (h : AC P f as' σ fun v s => v = w ∧ s = σ) (ha : LeL as as') (hk : V w σ) : AC P f as σ V :=
  (h.mono fun v s ⟨h1, h2⟩ => by rw [h1, h2]; exact hk).args ha (StLe.refl _)
theorem not1 {a : Nat} {l : List Nat} (h : a ∉ l) : ∀ i ∈ l, i ∉ [a] := fun i hi hj => by
  simp only [List.mem_singleton] at hj
  subst hj; exact h hi
theorem nz {b : Int} (h : (!(b == 0)) = true) : ¬ b = 0 := fun hh => by subst hh; simp at h
theorem bin_agg {t : TypeId} {ti : TI} {op : BinOp} {xs ys : List AV} {fs : List (Nat × Nat × Bool)} {ks : List EqK} {v : AV} (h1 : tiOf P t = some ti) (h2 : ti.sh = .struct fs (some ks)) (h : (cellsEq ks xs ys).bind (eqv op) = some v) : bin P op t (.agg xs) (.agg ys) = some v := by
  obtain ⟨_, _, _, _, s1⟩ := ti
  subst h2
  simp only [bin, h1, h]
theorem bin_bool {t : TypeId} {ti : TI} {op : BinOp} {a b : Bool} {v : AV} (h1 : tiOf P t = some ti) (h2 : ti.sh = .bool) (h : eqv op (a == b) = some v) : bin P op t (.bool a) (.bool b) = some v := by
  obtain ⟨_, _, _, _, s1⟩ := ti
  subst h2
  simp only [bin, h1, h]
inductive LeF : List AV → List AV → Prop
  | nil : LeF [] []
  | cons {u v : AV} {us vs : List AV} : Le u v → LeF us vs → LeF (u :: us) (v :: vs)
theorem LeF.all : ∀ {us vs : List AV}, LeF us vs → us.length = vs.length ∧ ∀ (i : Nat) (e f : AV), us[i]? = some e → vs[i]? = some f → Le e f
  | _, _, .nil => ⟨rfl, fun i e f he => by simp at he⟩
  | _, _, .cons h k => by
    obtain ⟨h1, h2⟩ := k.all
    refine ⟨by simp [h1], fun i e f he hf => ?_⟩
    cases i with
    | zero => simp at he hf; subst he hf; exact h
    | succ i => exact h2 i e f (by simpa using he) (by simpa using hf)
theorem Le.elemsF {sz : Nat} {us vs : List AV} {tk : Tk} (h : LeF us vs) : Le (.imm sz us tk) (.imm sz vs tk) := Le.elems h.all.1 h.all.2
theorem Le.trans {u v w : AV} (h : Le u v) (k : Le v w) : Le u w := fun Γ x hx => k Γ x (h Γ x hx)

theorem on : opds env [] = some [] := rfl
theorem oc {x : Operand} {xs : List Operand} {a : AV} {as : List AV} (h : opd env x = some a) (k : opds env xs = some as) : opds env (x :: xs) = some (a :: as) := by simp only [opds, h, k]
theorem pn : parts env [] = some [] := rfl
theorem pc {i : Nat} {x : Operand} {xs : List (Nat × Operand)} {a : AV} {as : List (Nat × AV)} (h : opd env x = some a) (k : parts env xs = some as) : parts env ((i, x) :: xs) = some ((i, a) :: as) := by simp only [parts, h, k]
theorem rn : resAs P env σ [] = some [] := rfl
theorem rc {t : Tmp} {rs : List ResultVar} {v : AV} {vs : List AV} (h : env.get t = some v) (k : resAs P env σ rs = some vs) : resAs P env σ (.tmp t :: rs) = some (v :: vs) := by simp only [resAs, resA, h, k]
theorem rcc {a : Tmp} {t : TypeId} {rs : List ResultVar} {v : AV} {vs cs : List AV} {ti : TI} {id off : Nat} (h1 : tiOf P t = some ti) (h : env.get a = some (.ptr id off)) (hσ : σ id = some (.cells cs)) (hv : lod ti cs off = some v)
    (k : resAs P env σ rs = some vs) : resAs P env σ (.cell a t :: rs) = some (v :: vs) := by
  have : opd env (.tmp a) = some (.ptr id off) := h
  simp only [resAs, resA, rd, h1, this, hσ, hv, k]

theorem bsv_of {t e : TypeId} {tt te : TI} {len : Nat} {ps : Array (Nat × Operand)} {as : List (Nat × AV)} {es : List AV} (h1 : tiOf P t = some tt) (h2 : tt.sh = .slice e) (h3 : tiOf P e = some te) (hp : parts env ps.toList = some as) (hi : inOrder te.sz 0 as = some es)
    (hl : es.length = len ∧ len * te.sz ≤ 16777216 ∧ (0 < te.sz) ∧ te.zero.isSome) : bsv P env t len ps = some (.imm te.sz es .full) := by
  obtain ⟨_, _, _, _, s1⟩ := tt
  subst h2
  simp only [bsv, h1, hp, h3, hi, if_pos hl]

theorem bsv_of' {t e : TypeId} {tt te : TI} {len : Nat} {ps : Array (Nat × Operand)} {as : List (Nat × AV)} {es es' : List AV} (h1 : tiOf P t = some tt) (h2 : tt.sh = .slice e) (h3 : tiOf P e = some te) (hp : parts env ps.toList = some as) (hi : inOrder te.sz 0 as = some es)
    (hl : es.length = len ∧ len * te.sz ≤ 16777216 ∧ (0 < te.sz) ∧ te.zero.isSome) (he : es = es') : bsv P env t len ps = some (.imm te.sz es' .full) := he ▸ bsv_of h1 h2 h3 hp hi hl

/-- The end of a function. -/
theorem ret_of {rs : List ResultVar} {vs : List AV} {W : AV → St → Prop} (h : resAs P env σ rs = some vs) (v : AV) (σ' : St) (hl : Le (tup1 vs) v) (hs : StLe σ σ') (k : W v σ') : retQ P rs W .ret env σ := by
  simp only [retQ, h]; exact ⟨v, σ', hl, hs, k⟩
theorem end_of {rs : List ResultVar} {vs : List AV} {W : AV → St → Prop} (h : resAs P env σ rs = some vs) (v : AV) (σ' : St) (hl : Le (tup1 vs) v) (hs : StLe σ σ') (k : W v σ') : retQ P rs W .normal env σ := by
  simp only [retQ, h]; exact ⟨v, σ', hl, hs, k⟩
theorem Fr.back {σ0 : St} (h : Fr σ0 σ []) : StLe σ σ0 := .of_sub fun id o ho => by
  rw [h id (by rw [ho]; simp) (by simp)]; exact ho

theorem Qt {K' : Env → St → Prop} {Q : AQ} (h : Q .ret env σ) : thenQ K' Q .ret env σ := h
theorem Qb {i : Nat} {Q : AQ} (h : Q .ret env σ) : blockQ i Q .ret env σ := h
theorem Qte {i : Nat} {K' : Env → St → Prop} {Q : AQ} (h : Q (.exit i) env σ) : thenQ K' Q (.exit i) env σ := h
theorem Qbx {i : Nat} {Q : AQ} (h : Q .normal env σ) : blockQ i Q (.exit i) env σ := by simp only [blockQ, if_true]; exact h
/-! ### What stays -/

theorem Fr.keep {σ' : St} {M : List Nat} (h : Fr σ σ' M) {j : Nat} {x : AObj} (hj : σ j = some x) (hn : j ∉ M) : σ' j = some x := by
  rw [h j (by rw [hj]; simp) hn]; exact hj
theorem tok_cells {tk : Tk} {n sz j : Nat} {cs : List AV} (h : TokOk σ tk n sz) (hj : σ j = some (.cells cs)) : j ∉ tkNames tk := by
  cases tk with
  | no => exact h.elim
  | full => simp [tkNames]
  | own i =>
    simp only [tkNames, List.mem_singleton]
    rintro rfl
    have h' : σ j = some (.tok n sz) := h
    rw [h'] at hj; cases hj
theorem tok_map {tk : Tk} {n sz j : Nat} {es : List (AV × AV)} (h : TokOk σ tk n sz) (hj : σ j = some (.map es)) : j ∉ tkNames tk := by
  cases tk with
  | no => exact h.elim
  | full => simp [tkNames]
  | own i =>
    simp only [tkNames, List.mem_singleton]
    rintro rfl
    have h' : σ j = some (.tok n sz) := h
    rw [h'] at hj; cases hj
theorem TokOk.keep {σ' : St} {M : List Nat} {tk : Tk} {n sz : Nat} (h : TokOk σ tk n sz) (hF : Fr σ σ' M) (hd : ∀ i ∈ tkNames tk, i ∉ M) : TokOk σ' tk n sz := by
  cases tk with
  | no => exact h
  | full => exact h
  | own i => exact hF.keep h (hd i (by simp [tkNames]))
theorem TokOk.len {tk : Tk} {n m sz : Nat} (h : TokOk σ tk n sz) (e : n = m) : TokOk σ tk m sz := e ▸ h

/-- Two slices' rooms are apart. -/
def Dj (a b : Tk) : Prop := ∀ i ∈ tkNames a, i ∉ tkNames b
theorem Dj.symm {a b : Tk} (h : Dj a b) : Dj b a := fun i hi hj => h i hj hi
theorem Dj.fullL (b : Tk) : Dj .full b := fun i hi => by simp [tkNames] at hi
theorem Dj.fullR (a : Tk) : Dj a .full := fun i _ => by simp [tkNames]
theorem Dj.next {a a' b : Tk} {n sz : Nat} (h : Dj a b) (hb : TokOk σ b n sz) (hn : ∀ i ∈ tkNames a', i ∈ tkNames a ∨ σ i = none) : Dj a' b := fun i hi hj => by
  rcases hn i hi with h1 | h1
  · exact h i h1 hj
  · cases b with
    | no => simp [tkNames] at hj
    | full => simp [tkNames] at hj
    | own k =>
      simp only [tkNames, List.mem_singleton] at hj
      subst hj
      have h' : σ i = some (.tok n sz) := hb
      rw [h'] at h1; cases h1

/-- Names that were not there at the start, or that may be changed. -/
def Lo (σ0 : St) (M : List Nat) (l : List Nat) : Prop := ∀ j ∈ l, σ0 j ≠ none → j ∈ M
theorem Lo.nil {σ0 : St} {M : List Nat} : Lo σ0 M [] := fun j hj => by simp at hj
theorem Lo.full {σ0 : St} {M : List Nat} : Lo σ0 M (tkNames .full) := fun j hj => by simp [tkNames] at hj
theorem Lo.mem {σ0 : St} {M l : List Nat} (h : ∀ j ∈ l, j ∈ M) : Lo σ0 M l := fun j hj _ => h j hj
theorem Lo.app {σ0 : St} {M l l' : List Nat} (h : Lo σ0 M l) (h' : Lo σ0 M l') : Lo σ0 M (l ++ l') := fun j hj hn => by
  rcases List.mem_append.1 hj with hj | hj
  · exact h j hj hn
  · exact h' j hj hn
theorem Fr.lo1 {σ0 : St} {M : List Nat} (F : Fr σ0 σ M) {id : Nat} (h : σ id = none) : Lo σ0 M [id] := fun j hj hn => by
  simp only [List.mem_singleton] at hj
  subst hj
  by_cases hm : j ∈ M
  · exact hm
  · have := F j hn hm
    rw [h] at this
    exact absurd this.symm hn
theorem Fr.loTk {σ0 : St} {M : List Nat} (F : Fr σ0 σ M) {a a' : Tk} (h : Lo σ0 M (tkNames a)) (hn : ∀ i ∈ tkNames a', i ∈ tkNames a ∨ σ i = none) : Lo σ0 M (tkNames a') := fun j hj hx => by
  rcases hn j hj with h1 | h1
  · exact h j h1 hx
  · exact F.lo1 h1 j (by simp) hx
theorem Fr.andThen {σ0 σ' : St} {M M' : List Nat} (F : Fr σ0 σ M) (h : Fr σ σ' M') (hl : Lo σ0 M M') : Fr σ0 σ' M := F.trans h hl

theorem nA {l A B : List Nat} (h : ∀ i ∈ l, i ∉ A) (k : ∀ i ∈ l, i ∉ B) : ∀ i ∈ l, i ∉ A ++ B := fun i hi hm => by
  rcases List.mem_append.1 hm with hm | hm
  · exact h i hi hm
  · exact k i hi hm
theorem mA {j : Nat} {A B : List Nat} (h : j ∉ A) (k : j ∉ B) : j ∉ A ++ B := fun hm => by
  rcases List.mem_append.1 hm with hm | hm
  · exact h hm
  · exact k hm
theorem si {α : Type} {a b : α} (h : some a = some b) : a = b := Option.some.inj h
theorem nb {n m : Nat} (h : n.ble m = true) : n ≤ m := Nat.le_of_ble_eq_true h
theorem od {p : Prop} [inst : Decidable p] (h : decide p = true) : p := of_decide_eq_true h
theorem ml {α : Type} {a : α} {as : List α} (bs : List α) (h : a ∈ as) : a ∈ as ++ bs := List.mem_append_left bs h
theorem m1 {j a : Nat} (h : j ≠ a) : j ∉ [a] := by simpa using h
theorem Lo.nn {σ0 : St} {M l : List Nat} (h : Lo σ0 M l) : ∀ i ∈ l, i ∈ M ∨ σ0 i = none := fun i hi => by
  by_cases hx : σ0 i = none
  · exact .inr hx
  · exact .inl (h i hi hx)
theorem Lo.call {σ0 : St} {M M' l : List Nat} (F : Fr σ0 σ M) (hl : Lo σ0 M M') (hn : ∀ i ∈ l, i ∈ M' ∨ σ i = none) : Lo σ0 M l := fun j hj hx => by
  rcases hn j hj with h | h
  · exact hl j h hx
  · exact F.lo1 h j (by simp) hx
theorem Dj.call {M' : List Nat} {a b : Tk} {n sz : Nat} (hn : ∀ i ∈ tkNames a, i ∈ M' ∨ σ i = none) (hb : TokOk σ b n sz) (hd : ∀ i ∈ tkNames b, i ∉ M') : Dj a b := fun i hi hj => by
  rcases hn i hi with h | h
  · exact hd i hj h
  · cases b with
    | no => simp [tkNames] at hj
    | full => simp [tkNames] at hj
    | own k =>
      simp only [tkNames, List.mem_singleton] at hj
      subst hj
      have h' : σ i = some (.tok n sz) := hb
      rw [h'] at h; cases h
/-- A new name is none of the old. -/
theorem ne_call {M' : List Nat} {b j : Nat} {x : AObj} (hn : ∀ i ∈ [b], i ∈ M' ∨ σ i = none) (hj : σ j = some x) (hm : j ∉ M') : j ≠ b := by
  rintro rfl
  rcases hn j (by simp) with h | h
  · exact hm h
  · rw [hj] at h; cases h
/-! ### Mirrors -/

theorem bcase (b : Bool) : b = true ∨ b = false := by cases b <;> simp
theorem cT {α : Type} {b : Bool} {x y : Option α} {r : α} (hb : b = true) (h : (bif b then x else y) = some r) : x = some r := by rw [hb] at h; exact h
theorem cF {α : Type} {b : Bool} {x y : Option α} {r : α} (hb : b = false) (h : (bif b then x else y) = some r) : y = some r := by rw [hb] at h; exact h
theorem gd {α : Type} {b : Bool} {x : Option α} {r : α} (h : (bif b then x else none) = some r) : b = true ∧ x = some r := by
  cases b with
  | true => exact ⟨rfl, h⟩
  | false => cases h
theorem bd {α β : Type} {o : Option α} {f : α → Option β} {r : β} (h : o.bind f = some r) : ∃ x, o = some x ∧ f x = some r := Option.bind_eq_some_iff.1 h
/-- What follows, named. -/
def jn {α : Sort _} {β : Sort _} (k : α) (body : α → β) : β := body k
theorem jn_elim {α : Sort _} {β : Type} {k : α} {body : α → Option β} {r : β} (h : jn k body = some r) : ∃ J, J = k ∧ body J = some r := ⟨k, rfl, h⟩

theorem AC.go {f : FuncId} {as as' : List AV} {σ1 : St} {W : AV → St → Prop} (h : AC P f as' σ1 W) (ha : LeL as as') (hs : StLe σ σ1) (hk : ∀ v s, W v s → V v s) : AC P f as σ V := (h.mono hk).args ha hs

end Go.Am
