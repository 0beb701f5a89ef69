/-
  The abstract machine's other operations are the model's: allocations, writes, appends, calls.
-/
import Derived.Test.YtbmlendfheakeaaGreatAmF
import Derived.Laws.AppendOwn
import Derived.Laws.MakeOwn
namespace Go.Am

variable {P : Program} {Γ : Gh} {env : Env} {σ : St} {a : Act} {w : World}

/-- What an operation comes to, seen by what comes behind it. -/
def Goes (P : Program) (Γ : Gh) (σ : St) (w : World) (a : Act) (o : Oper) (K : AV → St → Prop) : Prop :=
  ∀ (next : Act → World → Prop) (Q : Exit → Act → World → Prop), (∀ cv w' v σ' Γ', Step Γ σ w Γ' σ' w' → VR Γ' v cv → K v σ' → next (a.put o.dst cv) w') → o.wp P a w next Q

theorem goes_value {o : Oper} {K : AV → St → Prop} {cv : Value} {w' : World} {v : AV} {σ' : St} {Γ' : Gh} (hrun : (execOp a.eval o).run P w = .ok (.value cv) w') (hs : Step Γ σ w Γ' σ' w') (hv : VR Γ' v cv) (hK : K v σ') :
    Goes P Γ σ w a o K := fun next Q h => by
  unfold Oper.wp
  rw [hrun, Oper.upon_value]
  exact h cv w' v σ' Γ' hs hv hK

theorem goes_skip {o : Oper} {K : AV → St → Prop} {w' : World} {σ' : St} {Γ' : Gh} (hrun : (execOp a.eval o).run P w = .ok .skip w') (hs : Step Γ σ w Γ' σ' w') (hK : K (.tup []) σ') : Goes P Γ σ w a o K := fun next Q h => by
  unfold Oper.wp
  rw [hrun, Oper.upon_skip]
  exact h undef w' (.tup []) σ' Γ' hs (by simp only [VR]; exact ⟨[], rfl, VRL.nil⟩) hK

theorem goes_rd {o : Oper} {K : AV → St → Prop} (he : EnvRel Γ env a) (hr : Rel σ Γ w) {v : AV} (h : rd P env σ o.op = some v) (hK : K v σ) : Goes P Γ σ w a o K := by
  obtain ⟨cv, hrun, hv⟩ := rd_sound he hr h
  exact goes_value hrun (Step.refl hr) hv hK

theorem plain_of {cs : List AV} {arr : Array Value} (h : VRL Γ cs arr.toList) (hs : cs.all AV.sc = true) : Plain arr := fun i x hx =>
  h.sc hs x (by have : arr.toList[i]? = some x := by simpa using hx
                exact List.mem_of_getElem? this)

theorem ofCell_sc : ∀ (v : Value) (x : AV), ofCell v = some x → x.sc = true := by
  intro v x h
  unfold ofCell at h
  split at h <;> first | (cases h; rfl) | (cases h; done)

theorem ofCells_sc : ∀ (vs : List Value) (xs : List AV), ofCells vs = some xs → xs.all AV.sc = true
  | [], xs, h => by simp [ofCells] at h; subst h; rfl
  | v :: vs, xs, h => by
    simp only [ofCells] at h
    split at h
    · rename_i p q h1 h2; cases h; simp [ofCell_sc v p h1, ofCells_sc vs q h2]
    · cases h

theorem ofVal_sc {v : Value} {x : AV} (h : ofVal v = some x) : x.cells.all AV.sc = true := by
  unfold ofVal at h
  split at h
  · split at h
    · rename_i p h1; cases h; exact ofCells_sc _ _ h1
    · cases h
  · have := ofCell_sc _ _ h
    cases x <;> simp [AV.cells, AV.sc] at this ⊢

/-- New cells under a new name. -/
theorem step_cells (hr : Rel σ Γ w) {cs : List AV} {arr : Array Value} (T : TypeId) (hv : VRL Γ cs arr.toList) (hs : Plain arr) :
    ∃ id Γ', σ id = none ∧ Step Γ σ w Γ' (σ.set id (some (.cells cs))) (w.alloc (.cells arr T)) ∧ Γ'.loc id = some (w.heap.size, 0, 0) := by
  obtain ⟨id, h1, h2⟩ := hr.fresh
  refine ⟨id, _, h1, Step.add hr (.cells arr T) (fun _ => none) id 0 0 (.cells cs) h1 h2 (fun i x h => by cases h) ?_, by simp [Gh.add]⟩
  have hext := Gh.add_ext hr (fun _ => none) id 0 0 h2
  refine ⟨rfl, fun i => by simp [Gh.add], arr, T, (0, 0), heap_push_new _ _, rfl, hs, by have := hv.length; simp at this; omega, ?_⟩
  have hlen := hv.length
  rw [List.take_of_length_le (by rw [hlen]; exact Nat.le_refl _)]
  exact VRL.ext hext _ _ hv

theorem run_newVar (t : TypeId) (v : Value) : (newVar t v).run P w = .ok ⟨w.heap.size, 0, none⟩ (w.alloc (.cells v.cells t)) := rfl

theorem act_alloc {o : Oper} {t : TypeId} (ho : o.op = .alloc t) {K : AV → St → Prop} (hr : Rel σ Γ w) (h : act P env σ (.alloc t) K) : Goes P Γ σ w a o K := by
  simp only [act] at h
  split at h
  · rename_i z hti
    obtain ⟨i, d, h1, h2, h3⟩ := tiOf_info hti
    simp only [TI.mk.injEq] at h3
    cases hz : i.zero with
    | none => rw [hz] at h3; simp at h3
    | some zv =>
      rw [hz] at h3
      simp only [Option.bind_some] at h3
      have hzv := h3.2.2.2.1.symm
      have hvr := ofVal_sound (Γ := Γ) hzv
      obtain ⟨id, Γ', k1, k2, k3⟩ := step_cells hr t hvr.cells (plain_of hvr.cells (ofVal_sc hzv))
      have hzr : (zeroValue t).run P w = .ok zv w := by simp [zeroValue, typeInfo, h1, hz]
      refine goes_value (cv := .pointer (some ⟨w.heap.size, 0, none⟩)) ?_ k2 ?_ (h id k1)
      · simp [execOp, ho, Instr.alloc, hzr, run_newVar]
      · simp only [VR]; exact ⟨_, _, k3, rfl⟩
  · exact h.elim

theorem act_box {o : Oper} {t : TypeId} {x : Operand} (ho : o.op = .box t x) {K : AV → St → Prop} (he : EnvRel Γ env a) (hr : Rel σ Γ w) (h : act P env σ (.box t x) K) : Goes P Γ σ w a o K := by
  simp only [act] at h
  split at h
  · rename_i v hx
    have hp := opd_sound he hx
    obtain ⟨id, Γ', k1, k2, k3⟩ := step_cells hr t hp.cells (plain_of hp.cells h.1)
    refine goes_value (cv := .pointer (some ⟨w.heap.size, 0, none⟩)) ?_ k2 ?_ (h.2 id k1)
    · simp [execOp, ho, Instr.box, run_newVar]
    · simp only [VR]; exact ⟨_, _, k3, rfl⟩
  · exact h.elim

theorem act_makeMap {o : Oper} {t : TypeId} (ho : o.op = .makeMap t none) {K : AV → St → Prop} (hr : Rel σ Γ w) (h : act P env σ (.makeMap t none) K) : Goes P Γ σ w a o K := by
  simp only [act] at h
  obtain ⟨id, h1, h2⟩ := hr.fresh
  refine goes_value (cv := .map (some w.heap.size)) (w' := w.alloc (.map #[] 0)) ?_ (Step.add hr (.map #[] 0) (fun _ => none) id 0 0 (.map []) h1 h2 (fun i x h => by cases h) ?_) ?_ (h id h1)
  · have : (newObj (.map #[] 0)).run P w = .ok w.heap.size (w.alloc (.map #[] 0)) := rfl
    simp [execOp, ho, Instr.makeMap, this]
  · exact ⟨rfl, fun i => by simp [Gh.add], #[], 0, heap_push_new _ _, rfl⟩
  · simp only [VR]; exact ⟨w.heap.size, 0, by simp [Gh.add], rfl⟩

theorem heap_setRow_same {g : Nat} {cur : Array Value} {T : TypeId} {fz : Nat × Nat} (h : w.heap[g]? = some (.cells cur T fz)) (cs : Array Value) : (w.setRow g cs).heap[g]? = some (.cells cs T fz) := by
  simp [World.setRow, Array.getElem?_modify, h]

theorem heap_setRow_other {g k : Nat} (h : k ≠ g) (cs : Array Value) : (w.setRow g cs).heap[k]? = w.heap[k]? := by
  simp [World.setRow, Array.getElem?_modify, Ne.symm h]

theorem size_setRow (g : Nat) (cs : Array Value) : (w.setRow g cs).heap.size = w.heap.size := by simp [World.setRow]

theorem VRL.splice {cs vs : List AV} {xs ys : List Value} (h : VRL Γ cs xs) (k : VRL Γ vs ys) (off : Nat) : VRL Γ (splice cs off vs) (xs.take off ++ ys ++ xs.drop (off + ys.length)) := by
  unfold Am.splice
  rw [k.length]
  exact ((h.take off).append k).append (h.drop _)

theorem act_store {o : Oper} {t : TypeId} {x y : Operand} (ho : o.op = .store t x y) {K : AV → St → Prop} (he : EnvRel Γ env a) (hr : Rel σ Γ w) (h : act P env σ (.store t x y) K) : Goes P Γ σ w a o K := by
  simp only [act] at h
  split at h
  · rename_i ti id off v hti hx hy
    split at h
    · rename_i cs hσ
      obtain ⟨hsz, hle, hsc, hK⟩ := h
      obtain ⟨i, d, h1, h2, rfl⟩ := tiOf_info hti
      have hp := opd_sound he hx
      have hq := opd_sound he hy
      simp only [VR] at hp
      obtain ⟨b, c, hl, hp⟩ := hp
      obtain ⟨l, hl', ho'⟩ := hr.obj _ _ hσ
      have hl0 := hl'
      rw [hl] at hl'; cases hl'
      obtain ⟨_, him, arr, T, fz, hh, hsoft, hplain, hcl, hv⟩ := ho'
      cases hsoft
      have hcells := hq.cells
      have hsz' : v.cells.length = i.size := hsz
      have hle' : off + i.size ≤ cs.length := hle
      obtain ⟨ys, hys⟩ : ∃ ys, ys = (a.eval y).cells.toList := ⟨_, rfl⟩
      have hcs : ys.length = i.size := by rw [hys, Array.length_toList, hq.cells_size]; exact hsz
      rw [← hys] at hcells
      have hone : ∀ u ∈ ys, u.oneCell' = true := hcells.sc hsc
      have hfit : off + ys.length ≤ arr.size := by omega
      have hst := run_storeCells_at P b off T ys 0 arr w hh (by simpa using hfit) hone
      simp only [Nat.add_zero] at hst
      have hstep := Step.upd (σ := σ) (Γ := Γ) (Γ' := Γ) (w := w) (w' := w.setRow b (arr.toList.take off ++ ys ++ arr.toList.drop (off + ys.length)).toArray) hr hσ hl id (b, 0, c) rfl (.inl rfl)
        (o' := .cells (splice cs off v.cells)) (fun j => by split <;> simp_all) (fun _ => rfl) (fun _ _ _ => rfl) (fun _ _ h => h) (fun k hk => heap_setRow_other hk _) (size_setRow _ _)
        (fun j x hj => by simp only at hj; rw [him j] at hj; cases hj)
        (by
          refine ⟨rfl, him, _, T, (0, 0), heap_setRow_same hh _, rfl, ?_, ?_, ?_⟩
          · intro j x hj
            simp only [List.getElem?_toArray] at hj
            have hmem := List.mem_of_getElem? hj
            simp only [List.mem_append] at hmem
            rcases hmem with (hm | hm) | hm
            · obtain ⟨q, hq⟩ := List.getElem?_of_mem (List.mem_of_mem_take hm); exact hplain q x (by simpa using hq)
            · exact hone x hm
            · obtain ⟨q, hq⟩ := List.getElem?_of_mem (List.mem_of_mem_drop hm); exact hplain q x (by simpa using hq)
          · simp only [splice, List.length_append, List.length_take, List.length_drop, List.size_toArray, Array.length_toList]
            omega
          · have hlen : (splice cs off v.cells).length = cs.length := by simp only [splice, List.length_append, List.length_take, List.length_drop]; omega
            rw [hlen]
            have hsp := VRL.splice hv hcells off
            have e : ((arr.toList.take off ++ ys ++ arr.toList.drop (off + ys.length)).toArray.toList).take cs.length =
                (arr.toList.take cs.length).take off ++ ys ++ (arr.toList.take cs.length).drop (off + ys.length) := by
              have e1 : (arr.toList.take off ++ ys).length = off + ys.length := by simp; omega
              have e2 : (arr.toList.take cs.length).take off = arr.toList.take off := by rw [List.take_take, Nat.min_eq_left (by omega)]
              have e3 : (arr.toList.take cs.length).drop (off + ys.length) = (arr.toList.drop (off + ys.length)).take (cs.length - (off + ys.length)) := by rw [List.drop_take]
              rw [e2, e3, List.take_append, List.take_of_length_le (l := arr.toList.take off ++ ys) (by omega), e1]
            rw [e]; exact hsp) rfl rfl rfl
      rw [St.set_none_set] at hstep
      refine goes_skip ?_ hstep hK
      have hs2 : (sizeOf t).run P w = .ok i.size w := run_sizeOf' h1
      have hne : ¬ ((a.eval y).cells.size ≠ i.size) := by rw [hq.cells_size, hsz']; simp
      have hsv : (storeVar t ⟨b, off, none⟩ (a.eval y)).run P w = .ok () (w.setRow b (arr.toList.take off ++ ys ++ arr.toList.drop (off + ys.length)).toArray) := by
        simp only [storeVar, Sem.run_bind, hs2, Result.andThen_ok]
        rw [if_neg hne, ← hys]
        exact hst
      simp only [execOp, ho, Instr.storeAt, hp, Instr.sureAddr, Sem.run_bind, Sem.run_pure, Result.andThen_ok, hsv]
    · exact h.elim
  · exact h.elim

/-- A map's entries as the store has them, behind an update. -/
theorem mset_sound {t : TypeId} {d : TypeDesc} {key v : AV} {ck cv : Value} (hk : keyLike (shOf P t d) key = true) (hv : VR Γ key ck) (hx : VR Γ v cv) : ∀ (es : List (AV × AV)) (ents : List MapEntry) (n clock : Nat),
    MapRel Γ es ents → es.all (fun e => keyLike (shOf P t d) e.1) = true →
    (Instr.findNow d ck ents n = some none ∧ mfind key es = none ∧ MapRel Γ (mset key v es) (ents ++ [{ key := ck, val := cv, born := clock }])) ∨
    (∃ j old ev, Instr.findNow d ck ents n = some (some (n + j, ev)) ∧ ents[j]? = some old ∧ Instr.sameBits 10000 old.key ck = true ∧ MapRel Γ (mset key v es) (ents.modify j fun e => { e with key := ck, val := cv }))
  | [], ents, n, clock, hm, _ => by
    simp only [MapRel] at hm; subst hm
    exact .inl ⟨by simp [Instr.findNow], rfl, by simp only [mset, List.nil_append]; exact ⟨_, _, rfl, hv, hx, rfl⟩⟩
  | (k', v') :: es, ents, n, clock, hm, ha => by
    obtain ⟨e, r, rfl, h1, h2, h3⟩ := hm
    simp only [List.all_cons, Bool.and_eq_true] at ha
    have hsame : Instr.sameNow d ck e.key = some (keyEq key k') ∧ (keyEq key k' = true → Instr.sameBits 10000 e.key ck = true) := by
      have hk' := ha.1
      unfold keyLike at hk hk'
      split at hk
      · rename_i sh key1 k1 k2 n1 hsh
        have hd := sh_int hsh
        rw [hsh] at hk'
        split at hk'
        · rename_i k4 k5 n2 e1
          cases e1
          simp only [decide_eq_true_eq] at hk hk'
          subst hk; subst hk'; subst hd
          simp only [VR] at hv h1
          constructor
          · simp [Instr.sameNow, hv, h1, keyEq]
          · intro hq
            have : n1 = n2 := by simpa [keyEq] using hq
            rw [hv, h1, this]; simp [Instr.sameBits]
        · rename_i e1; cases e1
        · cases hk'
      · rename_i sh key1 s1 hsh
        have hd := sh_string hsh
        rw [hsh] at hk'
        split at hk'
        · rename_i e1; cases e1
        · subst hd
          simp only [VR] at hv h1
          constructor
          · simp [Instr.sameNow, hv, h1, keyEq, bytes_beq]
          · intro hq
            simp only [keyEq, decide_eq_true_eq] at hq
            rw [hv, h1, hq]; simp [Instr.sameBits, bytes_beq]
        · cases hk'
      · cases hk
    cases hq : keyEq key k' with
    | true =>
      refine .inr ⟨0, e, e.val, by simp [Instr.findNow, hsame.1, hq], by simp, hsame.2 hq, ?_⟩
      simp only [mset, hq, if_true]
      exact ⟨{ e with key := ck, val := cv }, r, by simp, hv, hx, h3⟩
    | false =>
      rcases mset_sound hk hv hx es r (n + 1) clock h3 ha.2 with ⟨i1, i2, i3⟩ | ⟨j, old, ev, i1, i2, i3, i4⟩
      · refine .inl ⟨by simp [Instr.findNow, hsame.1, hq, i1], by simp [mfind, hq, i2], ?_⟩
        simp only [mset, hq]
        exact ⟨e, _, rfl, h1, h2, i3⟩
      · refine .inr ⟨j + 1, old, ev, by simp [Instr.findNow, hsame.1, hq, i1]; omega, by simpa using i2, i3, ?_⟩
        simp only [mset, hq]
        exact ⟨e, _, by simp, h1, h2, i4⟩

theorem mdel_sound {t : TypeId} {d : TypeDesc} {key : AV} {ck : Value} (hk : keyLike (shOf P t d) key = true) (hv : VR Γ key ck) : ∀ (es : List (AV × AV)) (ents : List MapEntry) (n : Nat),
    MapRel Γ es ents → es.all (fun e => keyLike (shOf P t d) e.1) = true →
    (Instr.findNow d ck ents n = some none ∧ mdel key es = es) ∨ (∃ j ev, Instr.findNow d ck ents n = some (some (n + j, ev)) ∧ MapRel Γ (mdel key es) (ents.eraseIdx j))
  | [], ents, n, hm, _ => by
    simp only [MapRel] at hm; subst hm
    exact .inl ⟨by simp [Instr.findNow], rfl⟩
  | (k', v') :: es, ents, n, hm, ha => by
    have hf := findNow_sound (P := P) (t := t) hk hv ((k', v') :: es) ents n hm ha
    obtain ⟨e, r, rfl, h1, h2, h3⟩ := hm
    simp only [List.all_cons, Bool.and_eq_true] at ha
    have hsame : Instr.sameNow d ck e.key = some (keyEq key k') := by
      have hk' := ha.1
      unfold keyLike at hk hk'
      split at hk
      · rename_i sh key1 k1 k2 n1 hsh
        have hd := sh_int hsh
        rw [hsh] at hk'
        split at hk'
        · rename_i k4 k5 n2 e1
          cases e1
          simp only [decide_eq_true_eq] at hk hk'
          subst hk; subst hk'; subst hd
          simp only [VR] at hv h1
          simp [Instr.sameNow, hv, h1, keyEq]
        · rename_i e1; cases e1
        · cases hk'
      · rename_i sh key1 s1 hsh
        have hd := sh_string hsh
        rw [hsh] at hk'
        split at hk'
        · rename_i e1; cases e1
        · subst hd
          simp only [VR] at hv h1
          simp [Instr.sameNow, hv, h1, keyEq, bytes_beq]
        · cases hk'
      · cases hk
    cases hq : keyEq key k' with
    | true =>
      refine .inr ⟨0, e.val, by simp [Instr.findNow, hsame, hq], ?_⟩
      simpa [mdel, hq] using h3
    | false =>
      rcases mdel_sound hk hv es r (n + 1) h3 ha.2 with ⟨i1, i2⟩ | ⟨j, ev, i1, i4⟩
      · exact .inl ⟨by simp [Instr.findNow, hsame, hq, i1], by simp [mdel, hq, i2]⟩
      · refine .inr ⟨j + 1, ev, by simp [Instr.findNow, hsame, hq, i1]; omega, ?_⟩
        simp only [mdel, hq]
        exact ⟨e, _, by simp, h1, h2, i4⟩

/-- A map's block is written anew. -/
theorem step_map (hr : Rel σ Γ w) {id b c : Nat} {es es' : List (AV × AV)} (hσ : σ id = some (.map es)) (hl : Γ.loc id = some (b, 0, c)) {ents ents' : Array MapEntry} {clock clock' : Nat} (hh : w.heap[b]? = some (.map ents clock))
    (hm : MapRel Γ es' ents'.toList) : Step Γ σ w Γ (σ.set id (some (.map es'))) { w with heap := w.heap.setIfInBounds b (.map ents' clock') } := by
  obtain ⟨l, hl', ho'⟩ := hr.obj _ _ hσ
  have hl0 := hl'
  rw [hl] at hl'; cases hl'
  obtain ⟨_, him, _⟩ := ho'
  have hb : b < w.heap.size := by
    rcases Nat.lt_or_ge b w.heap.size with h | h
    · exact h
    · rw [Array.getElem?_eq_none h] at hh; cases hh
  have hstep := Step.upd (σ := σ) (Γ := Γ) (Γ' := Γ) (w := w) (w' := { w with heap := w.heap.setIfInBounds b (.map ents' clock') }) hr hσ hl id (b, 0, c) rfl (.inl rfl)
    (o' := .map es') (fun j => by split <;> simp_all) (fun _ => rfl) (fun _ _ _ => rfl) (fun _ _ h => h)
    (fun k hk => by simp only at hk ⊢; rw [Array.getElem?_setIfInBounds, if_neg (Ne.symm hk)]) (by simp)
    (fun j x hj => by simp only at hj; rw [him j] at hj; cases hj)
    ⟨rfl, him, ents', clock', by simp [hb], hm⟩ rfl rfl rfl
  rwa [St.set_none_set] at hstep

theorem act_mapUpdate {o : Oper} {t : TypeId} {m k x : Operand} (ho : o.op = .mapUpdate t m k x) {K : AV → St → Prop} (he : EnvRel Γ env a) (hr : Rel σ Γ w) (h : act P env σ (.mapUpdate t m k x) K) : Goes P Γ σ w a o K := by
  simp only [act] at h
  split at h
  · rename_i kt et id key v hti hm hk hx
    obtain ⟨i, d, h1, h2, h3⟩ := tiOf_info hti
    simp only [TI.mk.injEq] at h3
    have hd := sh_map h3.2.2.2.2.symm
    subst hd
    have hp := opd_sound he hm
    have hq := opd_sound he hk
    have hv := opd_sound he hx
    simp only [VR] at hp
    obtain ⟨b, c, hl, hp⟩ := hp
    split at h
    · rename_i tk es htk hσ
      obtain ⟨hc1, hc2, hK⟩ := h
      obtain ⟨ik, dk, a1, a2, rfl⟩ := tiOf_info htk
      obtain ⟨l, hl', ho'⟩ := hr.obj _ _ hσ
      rw [hl] at hl'; cases hl'
      obtain ⟨_, _, ents, clock, hh, hmr⟩ := ho'
      have hchk := run_checkKey (P := P) (w := w) a2 hc1 hq false 9999
      have hget : (getObj b).run P w = .ok (.map ents clock) w := by simp [getObj, Sem.run, hh]
      have hset : ∀ ob, (setObj b ob).run P w = .ok () { w with heap := w.heap.setIfInBounds b ob } := fun ob => by simp [setObj, Sem.run, hh]
      rcases mset_sound (P := P) (t := kt) hc1 hq hv es ents.toList 0 clock hmr hc2 with ⟨f1, _, f2⟩ | ⟨j, old, ev, f1, f2, f3, f4⟩
      · have hfk := run_findKey (P := P) (w := w) a2 f1
        refine goes_skip (w' := { w with heap := w.heap.setIfInBounds b (.map (ents.push { key := a.eval k, val := a.eval x, born := clock }) (clock + 1)) }) ?_ (step_map hr hσ hl hh (by simpa using f2)) hK
        simp only [execOp, ho, Instr.mapUpdate, Sem.run_bind, run_underlying h2, Result.andThen_ok, hp, hget, hchk, hfk, hset, Sem.run_pure]
      · rw [Nat.zero_add] at f1
        have hfk := run_findKey (P := P) (w := w) a2 f1
        have hold : ((ents[j]?).map (·.key)).getD (a.eval k) = old.key := by
          have : ents[j]? = some old := by simpa using f2
          simp [this]
        have hkeep : (Instr.keyThatStays old.key (a.eval k)).run P w = .ok (a.eval k) w := by simp [Instr.keyThatStays, f3]
        refine goes_skip (w' := { w with heap := w.heap.setIfInBounds b (.map (ents.modify j fun e => { e with key := a.eval k, val := a.eval x }) clock) }) ?_ (step_map hr hσ hl hh (by simpa using f4)) hK
        simp only [execOp, ho, Instr.mapUpdate, Sem.run_bind, run_underlying h2, Result.andThen_ok, hp, hget, hchk, hfk, hset, Sem.run_pure, hold, hkeep]
    · exact h.elim
  · exact h.elim

theorem act_delete {o : Oper} {args : Array Operand} {argTypes : Array TypeId} (ho : o.op = .call { callee := .builtin .delete, args, argTypes }) {K : AV → St → Prop} (he : EnvRel Γ env a) (hr : Rel σ Γ w)
    (h : act P env σ (.call { callee := .builtin .delete, args, argTypes }) K) : Goes P Γ σ w a o K := by
  simp only [act] at h
  split at h
  · rename_i m k t r hargs htys
    have e1 := array_eq_of_toList hargs
    have e2 := array_eq_of_toList htys
    subst e1; subst e2
    split at h
    · rename_i kt et id key hti hm hk
      obtain ⟨i, d, h1, h2, h3⟩ := tiOf_info hti
      simp only [TI.mk.injEq] at h3
      have hd := sh_map h3.2.2.2.2.symm
      subst hd
      have hp := opd_sound he hm
      have hq := opd_sound he hk
      simp only [VR] at hp
      obtain ⟨b, c, hl, hp⟩ := hp
      split at h
      · rename_i tk es htk hσ
        obtain ⟨hc1, hc2, hK⟩ := h
        obtain ⟨ik, dk, a1, a2, rfl⟩ := tiOf_info htk
        obtain ⟨l, hl', ho'⟩ := hr.obj _ _ hσ
        rw [hl] at hl'; cases hl'
        obtain ⟨_, _, ents, clock, hh, hmr⟩ := ho'
        have hchk := run_checkKey (P := P) (w := w) a2 hc1 hq ents.isEmpty 9999
        have hget : (getObj b).run P w = .ok (.map ents clock) w := by simp [getObj, Sem.run, hh]
        have hset : ∀ ob, (setObj b ob).run P w = .ok () { w with heap := w.heap.setIfInBounds b ob } := fun ob => by simp [setObj, Sem.run, hh]
        have hvr : VR Γ (.tup []) (.tuple #[]) := by simp only [VR]; exact ⟨[], rfl, VRL.nil⟩
        rcases mdel_sound (P := P) (t := kt) hc1 hq es ents.toList 0 hmr hc2 with ⟨f1, f2⟩ | ⟨j, ev, f1, f4⟩
        · have hfk := run_findKey (P := P) (w := w) a2 f1
          refine goes_value (w' := { w with heap := w.heap.setIfInBounds b (.map ents clock) }) (cv := .tuple #[]) ?_ (step_map hr hσ hl hh (by rw [f2]; exact hmr)) hvr hK
          simp [execOp, ho, resolve, invoke, builtin, Builtin.delete_, run_underlying h2, hp, hget, hchk, hfk, hset]
        · rw [Nat.zero_add] at f1
          have hfk := run_findKey (P := P) (w := w) a2 f1
          refine goes_value (w' := { w with heap := w.heap.setIfInBounds b (.map (ents.eraseIdxIfInBounds j) clock) }) (cv := .tuple #[]) ?_ (step_map hr hσ hl hh (by rw [Array.toList_eraseIdxIfInBounds]; exact f4)) hvr hK
          simp [execOp, ho, resolve, invoke, builtin, Builtin.delete_, run_underlying h2, hp, hget, hchk, hfk, hset]
      · exact h.elim
    · exact h.elim
  · exact h.elim

theorem act_call {o : Oper} {f : Operand} {args : Array Operand} {argTypes : Array TypeId} (ho : o.op = .call { callee := .value f, args, argTypes }) {K : AV → St → Prop} (he : EnvRel Γ env a) (hr : Rel σ Γ w)
    (h : act P env σ (.call { callee := .value f, args, argTypes }) K) : Goes P Γ σ w a o K := by
  simp only [act] at h
  split at h
  · rename_i g caps as hf has
    have hp := opd_sound he hf
    simp only [VR] at hp
    obtain ⟨xs, hp, hxs⟩ := hp
    have hargs := opds_sound he has
    obtain ⟨⟨fn, hfn, hbody, hname⟩, hC⟩ := h
    have hcalls := hC Γ w _ (hargs.append hxs) hr
    intro next Q hnext
    unfold Oper.wp
    have hrun : (execOp a.eval o).run P w = .ok (.enter g (args.toList.map a.eval ++ xs).toArray) w := by
      have : (args.toList.map a.eval ++ xs).toArray = args.map a.eval ++ xs.toArray := by
        apply Array.ext'; simp
      rw [this]
      have hname' : fn.name ≠ "runtime.NumGoroutine" := by simpa using hname
      have hbody' : fn.body ≠ none := by intro h; simp [h] at hbody
      simp [execOp, ho, resolve, hp, Deferred.ofValue, invoke, callFunc, hfn, hname', hbody']
    rw [hrun, Oper.upon_enter]
    refine hcalls.mono fun e w' ⟨cv, v, σ', Γ', hret, hs, hv, hK⟩ => ?_
    subst hret
    exact hnext cv w' v σ' Γ' hs hv hK
  · exact h.elim

theorem inOrder_cons {sz n : Nat} {p : Nat × AV} {as : List (Nat × AV)} {es : List AV} (h : inOrder sz n (p :: as) = some es) : p.1 = n ∧ p.2.cells.length = sz ∧ p.2.cells.all AV.sc = true ∧ ∃ r, es = p.2 :: r ∧ inOrder sz (n + 1) as = some r := by
  obtain ⟨i, v⟩ := p
  simp only [inOrder] at h
  split at h
  · rename_i hc
    cases hr : inOrder sz (n + 1) as with
    | none => rw [hr] at h; simp at h
    | some r => rw [hr] at h; simp at h; exact ⟨hc.1, hc.2.1, hc.2.2, r, h.symm, rfl⟩
  · cases h

/-- A slice that is written out: the parts fill its cells in order. -/
theorem fill_inOrder {sz : Nat} : ∀ (as : List (Nat × AV)) (vs : List (Nat × Value)) (es : List AV) (n : Nat) (arr : Array Value), inOrder sz n as = some es → as.map Prod.fst = vs.map Prod.fst → VRL Γ (as.map Prod.snd) (vs.map Prod.snd) →
    (n + as.length) * sz ≤ arr.size → ∃ out ys, Instr.fill (fun i => some (i * sz, sz)) arr vs = some out ∧ VRE Γ sz es ys ∧ (∀ y ∈ ys, y.oneCell' = true) ∧ out.toList = arr.toList.take (n * sz) ++ ys ++ arr.toList.drop ((n + as.length) * sz) ∧ es.length = as.length
  | [], vs, es, n, arr, h, h1, _, hle => by
    cases vs with
    | nil => simp [inOrder] at h; subst h; exact ⟨arr, [], rfl, VRE.nil _, by simp, by simp, rfl⟩
    | cons v vs => simp at h1
  | p :: as, vs, es, n, arr, h, h1, h2, hle => by
    cases vs with
    | nil => simp at h1
    | cons v vs =>
      obtain ⟨i', v⟩ := v
      obtain ⟨hi, hsz, hsc, r, rfl, hr⟩ := inOrder_cons h
      simp only [List.map_cons, List.cons.injEq] at h1
      obtain ⟨h0, h1⟩ := h1
      obtain ⟨y, ys, he, hx, hxs⟩ := VRL.cons_inv h2
      simp only [List.map_cons, List.cons.injEq] at he
      obtain ⟨rfl, rfl⟩ := he
      have hi' : i' = n := by rw [← h0]; exact hi
      subst hi'
      have hvs : v.cells.size = sz := by rw [hx.cells_size]; exact hsz
      have e0 : (i' + (p :: as).length) * sz = (i' + 1 + as.length) * sz := by simp [Nat.add_assoc, Nat.add_comm 1]
      have e1 : (i' + 1 + as.length) * sz = i' * sz + sz + as.length * sz := by rw [Nat.add_mul, Nat.succ_mul]
      have hle' : i' * sz + sz + as.length * sz ≤ arr.size := by rw [← e1, ← e0]; exact hle
      have hfold := splice_foldl v.cells.toList (i' * sz) 0 arr (by simp only [Nat.add_zero, Array.length_toList, hvs]; omega)
      simp only [Nat.add_zero, Array.length_toList, hvs] at hfold
      have hsize : (arr.toList.take (i' * sz) ++ v.cells.toList ++ arr.toList.drop (i' * sz + sz)).toArray.size = arr.size := by simp [hvs]; omega
      obtain ⟨out, zs, ho, hv, hone, hl, hlen⟩ := fill_inOrder as vs r (i' + 1) (arr.toList.take (i' * sz) ++ v.cells.toList ++ arr.toList.drop (i' * sz + sz)).toArray hr h1 hxs (by rw [hsize, e1]; exact hle')
      refine ⟨out, v.cells.toList ++ zs, ?_, ?_, ?_, ?_, by simp [hlen]⟩
      · simp only [Instr.fill]
        rw [if_neg (by simp [hvs]; omega), ← ho, ← hfold, ← Array.foldl_toList, Array.toList_zipIdx]
      · simp only [VRE]; exact ⟨v, zs, rfl, hvs, hx, hv⟩
      · intro u hu
        simp only [List.mem_append] at hu
        rcases hu with hu | hu
        · exact hx.cells.sc hsc u hu
        · exact hone u hu
      · rw [hl, e0]
        simp only
        have l1 : (arr.toList.take (i' * sz) ++ v.cells.toList).length = (i' + 1) * sz := by simp [hvs, Nat.succ_mul]; omega
        have l2 : (i' + 1) * sz = i' * sz + sz := Nat.succ_mul _ _
        have t2 : ∀ k, (arr.toList.take (i' * sz) ++ v.cells.toList ++ arr.toList.drop (i' * sz + sz)).drop ((i' + 1) * sz + k) = (arr.toList.drop (i' * sz + sz)).drop k := fun k => by
          rw [List.drop_append, l1, List.drop_eq_nil_of_le (by rw [l1]; omega), List.nil_append, Nat.add_sub_cancel_left]
        have e3 : (i' + 1 + as.length) * sz = (i' + 1) * sz + as.length * sz := Nat.add_mul _ _ _
        rw [List.take_append_of_le_length (by omega), List.take_of_length_le (by omega), e3, t2, List.drop_drop]
        simp only [List.append_assoc]
        rw [l2]

theorem size_of_ti {e : TypeId} {te : TI} (h : tiOf P e = some te) : ∃ i, P.info? e = some i ∧ i.size = te.sz ∧ i.bytes = te.bytes ∧ i.zero.bind ofVal = te.zero := by
  obtain ⟨i, d, h1, h2, rfl⟩ := tiOf_info h
  exact ⟨i, h1, rfl, rfl, rfl⟩

theorem act_buildSlice {o : Oper} {t : TypeId} {len : Nat} {ps : Array (Nat × Operand)} (ho : o.op = .buildSlice t len ps) {K : AV → St → Prop} (he : EnvRel Γ env a) (hr : Rel σ Γ w) (h : act P env σ (.buildSlice t len ps) K) :
    Goes P Γ σ w a o K := by
  simp only [act] at h
  have hq : ∃ v, bsv P env t len ps = some v ∧ K v σ := by
    split at h
    · rename_i v hv; exact ⟨v, hv, h⟩
    · exact h.elim
  obtain ⟨v, h, hK⟩ := hq
  unfold bsv at h
  split at h
  · rename_i e as hti has
    obtain ⟨i, d, h1, h2, h3⟩ := tiOf_info hti
    simp only [TI.mk.injEq] at h3
    have hd := sh_slice h3.2.2.2.2.symm
    subst hd
    split at h
    · rename_i te hte
      obtain ⟨ie, hie, hsz, _, hzero⟩ := size_of_ti hte
      split at h
      · rename_i es hes
        split at h
        case isFalse => cases h
        rename_i hcond
        obtain ⟨hlen, hsmall, hpos, hz⟩ := hcond
        cases h
        obtain ⟨e1, e2⟩ := parts_sound he has
        obtain ⟨z, hz⟩ := Option.isSome_iff_exists.1 hz
        rw [hz] at hzero
        cases hiz : ie.zero with
        | none => rw [hiz] at hzero; simp at hzero
        | some zv =>
          have hzr : (zeroValue e).run P w = .ok zv w := by simp [zeroValue, typeInfo, hie, hiz]
          obtain ⟨zs, hz0⟩ : ∃ zs : Array Value, zs = if len * te.sz = 0 then #[] else zv.cells := ⟨_, rfl⟩
          have haslen : as.length = es.length := by
            obtain ⟨_, _, _, _, _, _, hl⟩ := fill_inOrder (Γ := Γ) as (ps.toList.map fun p => (p.1, a.eval p.2)) es 0 (Array.replicate ((0 + as.length) * te.sz) undef) hes (by rw [e1]; simp) (by simpa [Function.comp_def] using e2) (by simp)
            exact hl.symm
          obtain ⟨out, ys, hfill, hve, hone, hout, hl⟩ := fill_inOrder (Γ := Γ) as (ps.toList.map fun p => (p.1, a.eval p.2)) es 0 ((Array.range (len * te.sz)).map (zs[· % zs.size]!)) hes (by rw [e1]; simp) (by simpa [Function.comp_def] using e2)
            (by simp; rw [haslen, hlen]; exact Nat.le_refl _)
          have hys : out.toList = ys := by
            rw [hout, Nat.zero_mul, List.take_zero, List.nil_append, Nat.zero_add, haslen, hlen, List.drop_eq_nil_of_le (by simp), List.append_nil]
          have hstep := Step.addIm hr (.cells out e) (fun j => out[j]?) (fun j x hj => ⟨by rw [cell?_cells (heap_push_new w _)]; exact hj, hone x (by rw [← hys]; exact List.mem_of_getElem? (by simpa using hj))⟩)
          refine goes_value (cv := .slice (some ⟨w.heap.size, 0, none⟩) len len) (w' := w.alloc (.cells out e)) ?_ hstep ?_ hK
          · have hps : (ps.map fun x => (x.1, a.eval x.2)).toList = ps.toList.map fun p => (p.1, a.eval p.2) := by simp
            have hn : ¬ (len * te.sz > 2 ^ 24) := by simp only [gt_iff_lt, Nat.not_lt]; omega
            have hnew : (newRow e out).run P w = .ok ⟨w.heap.size, 0, none⟩ (w.alloc (.cells out e)) := rfl
            simp only [execOp, ho, Instr.buildSlice, Sem.run_bind, run_underlying h2, Result.andThen_ok, run_sizeOf' hie, hsz]
            rw [if_neg hn]
            by_cases hh : len * te.sz = 0
            · rw [if_pos hh] at hz0
              subst hz0
              rw [hh] at hfill
              simp only [hh, if_true, Sem.run_bind, Sem.run_pure, Result.andThen_ok, hps, hfill, hnew]
            · rw [if_neg hh] at hz0
              subst hz0
              simp only [hh, if_false, Sem.run_bind, hzr, Sem.run_pure, Result.andThen_ok, hps, hfill, hnew]
          · simp only [VR]
            refine ⟨some (w.heap.size, 0), len, ys, by simp [toAddr, hlen], by omega, by simp, hve.ext hstep.ext, ?_, by simp [TkOk, hlen]⟩
            intro j x hj
            simp only [if_true, Nat.zero_add]
            rw [← hys] at hj; simpa using hj
      · cases h
    · cases h
  · cases h

theorem replicate_get {α : Type} (l : List α) (h : 0 < l.length) : ∀ (n i : Nat), ((List.replicate n l).flatten)[i]? = if i < n * l.length then l[i % l.length]? else none
  | 0, i => by simp
  | n + 1, i => by
    rw [List.replicate_succ, List.flatten_cons]
    by_cases hi : i < l.length
    · rw [List.getElem?_append_left hi, if_pos (by rw [Nat.succ_mul]; omega), Nat.mod_eq_of_lt hi]
    · rw [List.getElem?_append_right (by omega), replicate_get l h n (i - l.length), Nat.succ_mul]
      have e : (i - l.length) % l.length = i % l.length := by
        have := Nat.mod_eq_sub_mod (a := i) (b := l.length) (by omega)
        omega
      rw [e]
      by_cases h2 : i < n * l.length + l.length
      · rw [if_pos (by omega), if_pos h2]
      · rw [if_neg (by omega), if_neg h2]

theorem VRL.replicate {cs : List AV} {xs : List Value} (h : VRL Γ cs xs) : ∀ n, VRL Γ (List.replicate n cs).flatten (List.replicate n xs).flatten
  | 0 => by simp [VRL]
  | n + 1 => by
    rw [List.replicate_succ, List.flatten_cons, List.replicate_succ, List.flatten_cons]
    exact h.append (VRL.replicate h n)

theorem range_cells (z : Array Value) (n : Nat) (h : 0 < z.size) : ((Array.range (n * z.size)).map (fun x => z[x % z.size]!)).toList = (List.replicate n z.toList).flatten := by
  apply List.ext_getElem?
  intro i
  rw [replicate_get z.toList (by simpa using h)]
  simp only [Array.toList_map, Array.toList_range, List.getElem?_map, Array.length_toList]
  by_cases hi : i < n * z.size
  · have hm : i % z.size < z.size := Nat.mod_lt _ h
    rw [if_pos hi, List.getElem?_range hi]
    simp [hm]
  · rw [if_neg hi, List.getElem?_eq_none (by simp; omega)]
    rfl

theorem act_makeSlice {o : Oper} {t : TypeId} {l c : Operand} (ho : o.op = .makeSlice t l c) {K : AV → St → Prop} (he : EnvRel Γ env a) (hr : Rel σ Γ w) (h : act P env σ (.makeSlice t l c) K) : Goes P Γ σ w a o K := by
  simp only [act] at h
  split at h
  · rename_i e n m hti hl hc
    obtain ⟨i, d, h1, h2, h3⟩ := tiOf_info hti
    simp only [TI.mk.injEq] at h3
    have hd := sh_slice h3.2.2.2.2.symm
    subst hd
    split at h
    · rename_i sz bytes ag z sh hte
      obtain ⟨ie, hie, hsz, hby, hzero⟩ := size_of_ti hte
      simp only at hsz hby hzero
      obtain ⟨rfl, hn0, hn1, hb, hzl, hpos, hK⟩ := h
      cases hiz : ie.zero with
      | none => rw [hiz] at hzero; simp at hzero
      | some zv =>
        rw [hiz] at hzero
        simp only [Option.bind_some] at hzero
        have hvr := ofVal_sound (Γ := Γ) hzero
        have hzr : ∀ w', (zeroValue e).run P w' = .ok zv w' := fun w' => by simp [zeroValue, typeInfo, hie, hiz]
        have hcs : zv.cells.size = sz := by rw [hvr.cells_size, hzl]
        have hvl := opd_sound he hl
        have hvc := opd_sound he hc
        simp only [VR] at hvl hvc
        obtain ⟨N, rfl⟩ := Int.eq_ofNat_of_zero_le hn0
        simp only [Int.toNat_natCast] at hK
        obtain ⟨id, Γ', k1, k2, k3⟩ := step_cells hr (cs := (List.replicate N z.cells).flatten) (arr := (Array.range (N * sz)).map (fun x => zv.cells[x % zv.cells.size]!)) e
          (by rw [← hcs, range_cells _ _ (by omega)]; exact hvr.cells.replicate N)
          (plain_of (by rw [← hcs, range_cells _ _ (by omega)]; exact hvr.cells.replicate N) (by
            simp only [List.all_eq_true]
            intro x hx
            simp only [List.mem_flatten, List.mem_replicate] at hx
            obtain ⟨q, ⟨_, rfl⟩, hx⟩ := hx
            exact List.all_eq_true.1 (ofVal_sc hzero) x hx))
        refine goes_value (cv := .slice (some ⟨w.heap.size, 0, none⟩) N N) ?_ k2 ?_ (hK id k1)
        · have hB : (ie.bytes : Int) * (N : Int) ≤ 281474976710656 := by
            have h1 : (ie.bytes : Int) * (N : Int) ≤ 1024 * 4294967296 := Int.mul_le_mul (by omega) (by omega) (by omega) (by omega)
            omega
          have hrun := run_make (P := P) w t e ie zv h2 hie hiz .i64 .i64 (N : Int) (N : Int) (by omega) (Int.le_refl _) hB (by omega)
          simp only [Int.toNat_natCast, hsz] at hrun
          simp only [execOp, ho, hvl, hvc, Sem.run_bind, hrun, Result.andThen_ok, Sem.run_pure]
          rfl
        · simp only [VR]; exact ⟨_, _, k3, Nat.le_refl _, rfl⟩
    · exact h.elim
  · exact h.elim

theorem one_cells {x : Value} (h : x.oneCell' = true) : x.cells = #[x] := by
  cases x <;> simp [Value.oneCell'] at h <;> rfl

theorem elems_sound {te : TI} (hq : te.agg = true ∨ te.sz = 1) : ∀ (n : Nat) (cs : List AV) (xs : List Value) (ds : List AV), elems te n cs = some ds → VRL Γ cs xs → (∀ x ∈ xs, x.oneCell' = true) → ds.length = n ∧ n * te.sz ≤ xs.length ∧ VRE Γ te.sz ds (xs.take (n * te.sz))
  | 0, cs, xs, ds, h, _, _ => by simp [elems] at h; subst h; simp [VRE]
  | n + 1, cs, xs, ds, h, hv, hone => by
    simp only [elems] at h
    split at h
    · rename_i v r h1 h2
      cases h
      obtain ⟨i1, i2, i3⟩ := elems_sound hq n _ _ r h2 (hv.drop te.sz) (fun x hx => hone x (List.mem_of_mem_drop hx))
      have hlen := hv.length
      have key : ∃ y, VR Γ v y ∧ y.cells.size = te.sz ∧ te.sz ≤ xs.length ∧ y.cells.toList = xs.take te.sz := by
        unfold lod at h1
        split at h1
        · simp only [cut, Nat.zero_add, List.drop_zero] at h1
          split at h1
          · rename_i hle
            simp only [Option.map_some, Option.some.injEq] at h1
            subst h1
            refine ⟨.agg (xs.take te.sz).toArray, by simp only [VR]; exact ⟨_, rfl, hv.take _⟩, ?_, by omega, by simp [Value.cells]⟩
            simp [Value.cells]; omega
          · simp at h1
        · rename_i hna
          have h1' : te.sz = 1 := by
            rcases hq with h | h
            · exact absurd h hna
            · exact h
          obtain ⟨x, hx, hr⟩ := hv.get h1
          have hc := one_cells (hone x (List.mem_of_getElem? hx))
          cases xs with
          | nil => simp at hx
          | cons z zs =>
            simp at hx; subst hx
            exact ⟨z, hr, by rw [hc, h1']; rfl, by simp [h1'], by rw [hc, h1']; rfl⟩
      obtain ⟨y, y1, y2, y3, y4⟩ := key
      simp only [List.length_drop] at i2
      refine ⟨by simp [i1], by rw [Nat.succ_mul]; omega, ?_⟩
      simp only [VRE]
      refine ⟨y, (xs.drop te.sz).take (n * te.sz), ?_, y2, y1, i3⟩
      rw [y4, Nat.succ_mul, Nat.add_comm, List.take_add]
    · cases h

theorem run_firstCells_list {xs : List Value} {b off m c sz n : Nat} (hl : xs.length = n * sz) (h : ∀ j x, xs[j]? = some x → w.cell? ⟨b, off + j, none⟩ = some x) :
    (Builtin.firstCells sz n (.slice (some ⟨b, off, none⟩) m c)).run P w = .ok xs.toArray w := by
  have := run_loadCells_list (P := P) w ⟨b, off, none⟩ xs (fun j x hj => by rw [add_none]; exact h j x hj)
  rw [hl] at this
  simpa [Builtin.firstCells] using this

/-- What an append takes in, in the model's memory. -/
theorem srcOf_sound {te : TI} {v : AV} {cv : Value} {ds : List AV} (hr : Rel σ Γ w) (hv : VR Γ v cv) (h : srcOf σ te v = some ds) :
    ∃ xs : List Value, VRE Γ te.sz ds xs ∧ (∀ x ∈ xs, x.oneCell' = true) ∧ (∀ w', (Builtin.lenOf cv).run P w' = .ok ds.length w') ∧ ∀ w', w'.heap = w.heap → (Builtin.firstCells te.sz ds.length cv).run P w' = .ok xs.toArray w' := by
  unfold srcOf at h
  split at h
  · rename_i s es tk
    split at h
    · rename_i hc
      cases h
      simp only [VR] at hv
      obtain ⟨ad, cap, xs, rfl, _, hnil, hve, him, _⟩ := hv
      have hve' : VRE Γ te.sz ds xs := by
        rcases hc with rfl | rfl
        · exact hve
        · simp only [VRE] at hve ⊢; exact hve
      have hlen := hve'.length
      cases ad with
      | none =>
        obtain ⟨rfl, rfl⟩ := hnil rfl
        simp only [VRE] at hve'
        subst hve'
        exact ⟨[], by simp [VRE], by simp, fun w' => by simp [Builtin.lenOf], fun w' _ => by simp [Builtin.firstCells]⟩
      | some q =>
        obtain ⟨b, off⟩ := q
        have hcell : ∀ j x, xs[j]? = some x → w.cell? ⟨b, off + j, none⟩ = some x ∧ x.oneCell' = true := fun j x hj => hr.im _ _ _ (him j x hj)
        refine ⟨xs, hve', fun x hx => ?_, fun w' => by simp [Builtin.lenOf], fun w' hw => ?_⟩
        · obtain ⟨j, hj⟩ := List.getElem?_of_mem hx
          exact (hcell j x hj).2
        · exact run_firstCells_list hlen fun j x hj => by
            rw [cell?_of_heap (w := w) (by rw [hw])]; exact (hcell j x hj).1
    · cases h
  · rename_i id off len cap
    split at h
    · rename_i cs hσ
      split at h
      · rename_i hq
        simp only [VR] at hv
        obtain ⟨b, c, hl, _, rfl⟩ := hv
        obtain ⟨l, hl', ho'⟩ := hr.obj _ _ hσ
        rw [hl] at hl'; cases hl'
        obtain ⟨_, _, arr, T, fz, hh, _, hplain, hcl, hcs⟩ := ho'
        have hones : ∀ x ∈ (arr.toList.take cs.length).drop off, x.oneCell' = true := fun x hx => by
          obtain ⟨j, hj⟩ := List.getElem?_of_mem (List.mem_of_mem_take (List.mem_of_mem_drop hx))
          exact hplain j x (by simpa using hj)
        obtain ⟨k1, k2, k3⟩ := elems_sound hq len _ _ ds h (hcs.drop off) hones
        refine ⟨_, k3, fun x hx => hones x (List.mem_of_mem_take hx), fun w' => by simp [Builtin.lenOf, k1], fun w' hw => ?_⟩
        rw [k1]
        refine run_firstCells_list (by rw [List.length_take]; omega) fun j x hj => ?_
        rw [cell?_of_heap (w := w) (by rw [hw]), cell?_cells hh]
        rw [List.getElem?_take] at hj
        split at hj
        · rw [List.getElem?_drop, List.getElem?_take] at hj
          split at hj
          · simpa using hj
          · cases hj
        · cases hj
      · cases h
    · cases h
  · cases h

theorem run_append_none {t u ty e : TypeId} {d : TypeDesc} {i : TypeInfo} (ht : P.underlying t = some (.slice e)) (hu : P.underlying u = some d) (hd : ∀ k, d ≠ .int k) (hi : P.info? e = some i) {base : Option Addr} {sLen sCap : Nat} (hle : sLen ≤ sCap) {x : Value}
    (hlen : ∀ w', (Builtin.lenOf x).run P w' = .ok 0 w') (hf : (Builtin.firstCells i.size 0 x).run P w = .ok #[] w) :
    (Builtin.append_ #[t, u] ty #[.slice base sLen sCap, x]).run P w = .ok (.slice base sLen sCap) w := by
  cases base <;> simp [Builtin.append_, run_underlying ht, run_underlying hu, sizeOf, typeInfo, hi, hlen, hle, hf, storeCells]

theorem run_append_fit {t u ty e : TypeId} {d : TypeDesc} {i : TypeInfo} (ht : P.underlying t = some (.slice e)) (hu : P.underlying u = some d) (hd : ∀ k, d ≠ .int k) (hi : P.info? e = some i) {g off sLen sCap m : Nat} {T : TypeId} {cur : Array Value}
    (hg : w.heap[g]? = some (.cells cur T (0, 0))) {x : Value} {news : List Value} (hlen : ∀ w', (Builtin.lenOf x).run P w' = .ok m w') (hf : (Builtin.firstCells i.size m x).run P w = .ok news.toArray w) (h1 : ∀ u ∈ news, u.oneCell' = true)
    (hroom : sLen + m ≤ sCap) (hfit : off + sLen * i.size + news.length ≤ cur.size) :
    (Builtin.append_ #[t, u] ty #[.slice (some ⟨g, off, none⟩) sLen sCap, x]).run P w =
      .ok (.slice (some ⟨g, off, none⟩) (sLen + m) sCap) (w.setRow g (cur.toList.take (off + sLen * i.size) ++ news ++ cur.toList.drop (off + sLen * i.size + news.length)).toArray) := by
  have hst := run_storeCells_at P g (off + sLen * i.size) T news 0 cur w hg (by simpa using hfit) h1
  simp only [Nat.add_zero] at hst
  simp [Builtin.append_, run_underlying ht, run_underlying hu, sizeOf, typeInfo, hi, hlen, hroom, hf, add_none, hst]

theorem run_append_new {t u ty e : TypeId} {d : TypeDesc} {i : TypeInfo} {z : Value} (ht : P.underlying t = some (.slice e)) (hu : P.underlying u = some d) (hd : ∀ k, d ≠ .int k) (hi : P.info? e = some i) (hz0 : i.zero = some z) {base : Option Addr} {sLen sCap m : Nat}
    {x : Value} {olds news : List Value} (hlen : ∀ w', (Builtin.lenOf x).run P w' = .ok m w') (hf : ∀ w', w'.heap = w.heap → (Builtin.firstCells i.size m x).run P w' = .ok news.toArray w')
    (ho : ∀ w', w'.heap = w.heap → (Builtin.firstCells i.size sLen (.slice base sLen sCap)).run P w' = .ok olds.toArray w')
    (hg : sCap < sLen + m) (h63 : ((sLen + m : Nat) : Int) ≤ 9223372036854775807) (hfit : Builtin.nextslicecap (sLen + m) sCap * i.bytes ≤ 281474976710656) :
    (Builtin.append_ #[t, u] ty #[.slice base sLen sCap, x]).run P w =
      .ok (.slice (some ⟨w.heap.size, 0, none⟩) (sLen + m) (grownCap w (sLen + m) sCap e))
        (w.drew.alloc (.cells (olds.toArray ++ news.toArray ++ Builtin.zeroCells z.cells (grownCap w (sLen + m) sCap e - (sLen + m))) e)) := by
  have hn : ¬ (sLen + m ≤ sCap) := by omega
  have h63' : ¬ (9223372036854775807 < ((sLen : Int) + (m : Int))) := by omega
  have h48' : ¬ (281474976710656 < Builtin.nextslicecap (sLen + m) sCap * i.bytes) := by omega
  have hfd := hf w.drew rfl
  have hod := ho w.drew rfl
  simp [Builtin.append_, run_underlying ht, run_underlying hu, sizeOf, typeInfo, zeroValue, hi, hz0, hlen, hn, h63', h48', Question.forced, hfd, hod, newRow, grownCap]
  congr 2
  apply Array.ext'
  simp [List.append_assoc]

theorem zeroCells_plain {z : Array Value} (h : ∀ x ∈ z, x.oneCell' = true) (n : Nat) : ∀ x ∈ Builtin.zeroCells z n, x.oneCell' = true := by
  intro x hx
  simp only [Builtin.zeroCells, Array.mem_map, Array.mem_range] at hx
  obtain ⟨i, hi, rfl⟩ := hx
  have hz : 0 < z.size := by
    rcases Nat.eq_zero_or_pos z.size with h0 | h0
    · rw [h0, Nat.mul_zero] at hi; omega
    · exact h0
  have hm := Nat.mod_lt i hz
  rw [getElem!_pos z (i % z.size) hm]
  exact h _ (Array.getElem_mem hm)

/-- An append that moves the slice to a new block. -/
theorem step_grow (hr : Rel σ Γ w) {e : TypeId} {te : TI} {z : AV} {zv : Value} (hz : ofVal zv = some z) (hzl : z.cells.length = te.sz) {es ds : List AV} {xs0 xs : List Value} (hve : VRE Γ te.sz es xs0) (hve2 : VRE Γ te.sz ds xs) (h0 : ∀ x ∈ xs0, x.oneCell' = true)
    (h1 : ∀ x ∈ xs, x.oneCell' = true) (C : Nat) (hC : es.length + ds.length ≤ C) :
    ∃ id Γ', σ id = none ∧ Step Γ σ w Γ' (σ.set id (some (.tok (es.length + ds.length) te.sz))) (w.drew.alloc (.cells (xs0.toArray ++ xs.toArray ++ Builtin.zeroCells zv.cells (C - (es.length + ds.length))) e)) ∧
      VR Γ' (.imm te.sz (es ++ ds) (.own id)) (.slice (some ⟨w.heap.size, 0, none⟩) (es.length + ds.length) C) ∧ Γ.loc id = none := by
  have hr1 := (Step.draw hr (w.drawn + 1)).rel
  obtain ⟨id, k1, k2⟩ := hr.fresh
  obtain ⟨arr, harr⟩ : ∃ arr, arr = xs0.toArray ++ xs.toArray ++ Builtin.zeroCells zv.cells (C - (es.length + ds.length)) := ⟨_, rfl⟩
  have hzs : zv.cells.size = te.sz := by rw [(ofVal_sound (Γ := Γ) hz).cells_size, hzl]
  have l0 := hve.length
  have l1 := hve2.length
  have hsize : arr.size = C * te.sz := by
    rw [harr]
    simp only [Array.size_append, List.size_toArray, size_zeroCells, hzs, l0, l1]
    rw [← Nat.add_mul, ← Nat.add_mul]
    congr 1; omega
  have hplain : ∀ x ∈ arr, x.oneCell' = true := by
    intro x hx
    rw [harr] at hx
    simp only [Array.mem_append, List.mem_toArray] at hx
    rcases hx with (hx | hx) | hx
    · exact h0 x hx
    · exact h1 x hx
    · exact zeroCells_plain (fun y hy => (ofVal_sound (Γ := Γ) hz).cells.sc (ofVal_sc hz) y (by simpa using hy)) _ x hx
  have hget : ∀ i, i < (es.length + ds.length) * te.sz → arr[i]? = (xs0 ++ xs)[i]? := by
    intro i hi
    rw [harr, Array.getElem?_append_left (by simp [l0, l1]; rw [← Nat.add_mul]; exact hi)]
    simp
  rw [← harr]
  have hstep := Step.add (σ := σ) (Γ := Γ) (w := w.drew) hr1 (.cells arr e) (fun i => if i < (es.length + ds.length) * te.sz then arr[i]? else none) id 0 C (.tok (es.length + ds.length) te.sz) k1 k2
    (fun i x hx => by
      split at hx
      · exact ⟨by rw [cell?_cells (heap_push_new w.drew _)]; exact hx, hplain x (Array.mem_of_getElem? hx)⟩
      · cases hx)
    ⟨fun i hi => by simp only [Gh.add, if_true]; rw [if_neg (by simp only at hi; omega)], arr, e, (0, 0), heap_push_new _ _, rfl, fun i x hx => hplain x (Array.mem_of_getElem? hx), by rw [hsize]; simp⟩
  refine ⟨id, _, k1, (Step.draw hr (w.drawn + 1)).trans hstep, ?_, k2⟩
  simp only [VR]
  refine ⟨some (w.heap.size, 0), C, xs0 ++ xs, by simp [toAddr], by simpa using hC, by simp, (hve.append hve2).ext hstep.ext, ?_, ?_⟩
  · intro i x hi
    have hlt : i < (es.length + ds.length) * te.sz := by
      have := (List.getElem?_eq_some_iff.1 hi).1
      simp only [List.length_append, l0, l1] at this
      rw [Nat.add_mul]; exact this
    show (Gh.add Γ w.heap.size _ id 0 C).im w.heap.size (0 + i) = some x
    simp only [Gh.add, if_true, Nat.zero_add, if_pos hlt]
    rw [hget i hlt]; exact hi
  · simp only [TkOk]
    exact ⟨w.heap.size, 0, rfl, by show (Gh.add Γ w.heap.size _ id 0 C).loc id = _; simp [Gh.add]⟩

theorem VRE.flat {Γ : Gh} {sz : Nat} : ∀ {es : List AV} {xs : List Value}, VRE Γ sz es xs → VRL Γ (es.map AV.cells).flatten xs
  | [], _, h => by simp only [VRE] at h; subst h; exact VRL.nil
  | e :: es, _, h => by
    simp only [VRE] at h
    obtain ⟨y, ys, rfl, _, h3, h4⟩ := h
    simpa using h3.cells.append h4.flat

/-- An append that moves the slice to a new block, which may be written. -/
theorem step_growRef (hr : Rel σ Γ w) {e : TypeId} {te : TI} {z : AV} {zv : Value} (hz : ofVal zv = some z) {es ds : List AV} {xs0 xs : List Value} (hve : VRE Γ te.sz es xs0) (hve2 : VRE Γ te.sz ds xs) (h0 : ∀ x ∈ xs0, x.oneCell' = true)
    (h1 : ∀ x ∈ xs, x.oneCell' = true) (C : Nat) (hC : es.length + ds.length ≤ C) :
    ∃ id Γ', σ id = none ∧ Step Γ σ w Γ' (σ.set id (some (.cells ((es ++ ds).map AV.cells).flatten))) (w.drew.alloc (.cells (xs0.toArray ++ xs.toArray ++ Builtin.zeroCells zv.cells (C - (es.length + ds.length))) e)) ∧
      VR Γ' (.ref id 0 (es.length + ds.length) C) (.slice (some ⟨w.heap.size, 0, none⟩) (es.length + ds.length) C) := by
  have hr1 := (Step.draw hr (w.drawn + 1)).rel
  obtain ⟨id, k1, k2⟩ := hr.fresh
  obtain ⟨arr, harr⟩ : ∃ arr, arr = xs0.toArray ++ xs.toArray ++ Builtin.zeroCells zv.cells (C - (es.length + ds.length)) := ⟨_, rfl⟩
  have hplain : ∀ x ∈ arr, x.oneCell' = true := by
    intro x hx
    rw [harr] at hx
    simp only [Array.mem_append, List.mem_toArray] at hx
    rcases hx with (hx | hx) | hx
    · exact h0 x hx
    · exact h1 x hx
    · exact zeroCells_plain (fun y hy => (ofVal_sound (Γ := Γ) hz).cells.sc (ofVal_sc hz) y (by simpa using hy)) _ x hx
  have hvl := (hve.append hve2).flat
  have hln := hvl.length
  rw [← harr]
  have htake : arr.toList.take ((es ++ ds).map AV.cells).flatten.length = xs0 ++ xs := by
    rw [← hln, harr]
    simp only [Array.toList_append, List.append_assoc]
    rw [← List.append_assoc, List.take_append_of_le_length (by simp), List.take_of_length_le (by simp)]
  have hstep := Step.add (σ := σ) (Γ := Γ) (w := w.drew) hr1 (.cells arr e) (fun _ => none) id 0 C (.cells ((es ++ ds).map AV.cells).flatten) k1 k2
    (fun i x hx => by cases hx)
    ⟨rfl, fun i => by simp [Gh.add], arr, e, (0, 0), heap_push_new _ _, rfl, fun i x hx => hplain x (Array.mem_of_getElem? hx), by rw [← hln, harr]; simp, by
      rw [htake]; exact VRL.ext (Gh.add_ext hr1 _ id 0 C k2) _ _ hvl⟩
  refine ⟨id, _, k1, (Step.draw hr (w.drawn + 1)).trans hstep, ?_⟩
  simp only [VR]
  exact ⟨w.heap.size, C, by show (Gh.add Γ w.heap.size _ id 0 C).loc id = _; simp [Gh.add], hC, rfl⟩

/-- An append in place. -/
theorem step_fit (hr : Rel σ Γ w) {te : TI} {es ds : List AV} {xs0 xs : List Value} (hve : VRE Γ te.sz es xs0) (hve2 : VRE Γ te.sz ds xs) (h1 : ∀ x ∈ xs, x.oneCell' = true) {i b off C : Nat} (hσ : σ i = some (.tok es.length te.sz)) (hl : Γ.loc i = some (b, off, C))
    (him : ImmAt Γ (some (b, off)) xs0) (hC : es.length + ds.length ≤ C) {arr : Array Value} {T : TypeId} (hh : w.heap[b]? = some (.cells arr T (0, 0))) (hplain : Plain arr) (hsz : off + C * te.sz ≤ arr.size) (hno : ∀ j, off + es.length * te.sz ≤ j → Γ.im b j = none) :
    ∃ id Γ', (σ.set i none) id = none ∧ Step Γ σ w Γ' ((σ.set i none).set id (some (.tok (es.length + ds.length) te.sz))) (w.setRow b (arr.toList.take (off + es.length * te.sz) ++ xs ++ arr.toList.drop (off + es.length * te.sz + xs.length)).toArray) ∧
      VR Γ' (.imm te.sz (es ++ ds) (.own id)) (.slice (some ⟨b, off, none⟩) (es.length + ds.length) C) ∧ σ id = none := by
  obtain ⟨id, k1, k2⟩ := hr.fresh
  have l0 := hve.length
  have l1 := hve2.length
  have hmul : (es.length + ds.length) * te.sz ≤ C * te.sz := Nat.mul_le_mul hC (Nat.le_refl _)
  rw [Nat.add_mul] at hmul
  obtain ⟨out, hout⟩ : ∃ out, out = arr.toList.take (off + es.length * te.sz) ++ xs ++ arr.toList.drop (off + es.length * te.sz + xs.length) := ⟨_, rfl⟩
  have hlen : out.length = arr.size := by
    rw [hout]; simp only [List.length_append, List.length_take, List.length_drop, Array.length_toList]; omega
  have hold : ∀ j, j < off + es.length * te.sz → out[j]? = arr[j]? := fun j hj => by
    rw [hout, List.append_assoc, List.getElem?_append_left (by simp; omega), List.getElem?_take, if_pos hj]; simp
  have hnew : ∀ j x, xs[j]? = some x → out[off + es.length * te.sz + j]? = some x := fun j x hj => by
    have hlt := (List.getElem?_eq_some_iff.1 hj).1
    rw [hout, List.append_assoc, List.getElem?_append_right (by simp; omega)]
    simp only [List.length_take, Array.length_toList]
    rw [List.getElem?_append_left (by omega), Nat.min_eq_left (by omega), Nat.add_sub_cancel_left]; exact hj
  rw [← hout]
  have hpl : ∀ (j : Nat) (x : Value), out[j]? = some x → x.oneCell' = true := fun j x hj => by
    rw [hout] at hj
    have hmem := List.mem_of_getElem? hj
    simp only [List.mem_append] at hmem
    rcases hmem with (hm | hm) | hm
    · obtain ⟨q, hq⟩ := List.getElem?_of_mem (List.mem_of_mem_take hm); exact hplain q x (by simpa using hq)
    · exact h1 x hm
    · obtain ⟨q, hq⟩ := List.getElem?_of_mem (List.mem_of_mem_drop hm); exact hplain q x (by simpa using hq)
  have hbs : b < w.heap.size := hr.low i _ hl
  let Γ' : Gh := ⟨fun q j => if q = b ∧ off + es.length * te.sz ≤ j ∧ j < off + (es.length + ds.length) * te.sz then out[j]? else Γ.im q j, fun j => if j = id then some (b, off, C) else Γ.loc j⟩
  have hstep := Step.upd (σ := σ) (Γ := Γ) (Γ' := Γ') (w := w) (w' := w.setRow b out.toArray) hr hσ hl id (b, off, C) rfl (.inr ⟨k1, k2⟩) (o' := .tok (es.length + ds.length) te.sz)
    (fun _ => rfl) (fun _ => rfl) (fun q j hq => by show (if q = b ∧ _ then _ else _) = _; rw [if_neg (by rintro ⟨h, _⟩; exact hq h)])
    (fun j x hx => by
      show (if _ then _ else _) = _
      by_cases hc : off + es.length * te.sz ≤ j
      · simp only at hx; rw [hno j hc] at hx; cases hx
      · rw [if_neg (by rintro ⟨_, h, _⟩; exact hc h)]; exact hx)
    (fun k hk => heap_setRow_other hk _) (size_setRow _ _)
    (fun j x hx => by
      have hx' : (if b = b ∧ off + es.length * te.sz ≤ j ∧ j < off + (es.length + ds.length) * te.sz then out[j]? else Γ.im b j) = some x := hx
      rw [cell?_cells (heap_setRow_same hh _)]
      split at hx'
      · exact ⟨by simpa using hx', hpl j x hx'⟩
      · have hc := hr.im b j x hx'
        rw [cell?_cells hh] at hc
        have hjl : j < off + es.length * te.sz := by
          rcases Nat.lt_or_ge j (off + es.length * te.sz) with h | h
          · exact h
          · rw [hno j h] at hx'; cases hx'
        exact ⟨by simp only [List.getElem?_toArray]; rw [hold j hjl]; exact hc.1, hc.2⟩)
    ⟨fun j hj => by
        show (if _ then _ else _) = _
        simp only at hj
        rw [if_neg (by rintro ⟨_, _, h⟩; omega)]
        exact hno j (by rw [Nat.add_mul] at hj; omega), out.toArray, T, (0, 0), heap_setRow_same hh _, rfl, fun j x hj => hpl j x (by simpa using hj), by simp only [List.size_toArray]; rw [hlen]; exact hsz⟩ rfl rfl rfl
  refine ⟨id, Γ', by by_cases h : id = i; · rw [h, St.set_same]
                     · rw [St.set_ne _ _ h]; exact k1, hstep, ?_, k1⟩
  simp only [VR]
  refine ⟨some (b, off), C, xs0 ++ xs, by simp [toAddr], by simpa using hC, by simp, (hve.append hve2).ext hstep.ext, ?_, ?_⟩
  · refine (him.ext hstep.ext).append fun j x hj => ?_
    have hlt := (List.getElem?_eq_some_iff.1 hj).1
    show (if _ then _ else _) = _
    rw [l0, if_pos ⟨rfl, by omega, by rw [Nat.add_mul]; omega⟩]
    exact hnew j x hj
  · exact ⟨b, off, rfl, if_pos rfl⟩

theorem act_append {o : Oper} {args : Array Operand} {argTypes : Array TypeId} (ho : o.op = .call { callee := .builtin .append, args, argTypes }) {K : AV → St → Prop} (he : EnvRel Γ env a) (hr : Rel σ Γ w)
    (h : act P env σ (.call { callee := .builtin .append, args, argTypes }) K) : Goes P Γ σ w a o K := by
  simp only [act] at h
  split at h
  · rename_i s x t u hargs htys
    have e1 := array_eq_of_toList hargs
    have e2 := array_eq_of_toList htys
    subst e1; subst e2
    split at h
    · rename_i e sz2 by2 ag2 ze2 e' s1 es tk xv hti htu hs hx
      obtain ⟨it, dt, h1, h2, h3⟩ := tiOf_info hti
      simp only [TI.mk.injEq] at h3
      have hd := sh_slice h3.2.2.2.2.symm
      subst hd
      obtain ⟨iu, du, u1, u2, u3⟩ := tiOf_info htu
      simp only [TI.mk.injEq] at u3
      have hdu := sh_slice u3.2.2.2.2.symm
      subst hdu
      split at h
      · rename_i te hte
        obtain ⟨i, hi, hsz, hby, hzero⟩ := size_of_ti hte
        split at h
        · rename_i ds hds
          obtain ⟨hpos, hbytes, hz, hlim, hs1, hK0, hK1⟩ := h
          have hp := opd_sound he hs
          have hq := opd_sound he hx
          obtain ⟨xs, hve2, hone2, hlen2, hf2⟩ := srcOf_sound hr hq hds
          simp only [VR] at hp
          obtain ⟨ad, cap, xs0, hp, hcap, hnil, hve0, him, htk⟩ := hp
          have hve : VRE Γ te.sz es xs0 := by
            rcases hs1 with rfl | rfl
            · exact hve0
            · simp only [VRE] at hve0 ⊢; exact hve0
          have l0 := hve.length
          have l1 := hve2.length
          rw [← hsz] at hf2
          by_cases hd0 : ds = []
          · subst hd0
            have hxs : xs = [] := by simp only [VRE] at hve2; exact hve2
            subst hxs
            have hrun := run_append_none (P := P) (w := w) (ty := o.type) h2 u2 (fun k hk => by cases hk) hi (base := ad.map toAddr) hcap hlen2 (hf2 w rfl)
            refine goes_value (cv := .slice (ad.map toAddr) es.length cap) (w' := w) ?_ (Step.refl hr) ?_ (hK0 rfl)
            · simp [execOp, ho, resolve, hp, invoke, builtin, hrun]
            · simp only [VR]; exact ⟨ad, cap, xs0, rfl, hcap, hnil, hve, him, htk⟩
          · have hKK := hK1 hd0
            clear hK1
            have hdpos : 0 < ds.length := List.length_pos_iff.2 hd0
            cases hzz : te.zero with
            | none => rw [hzz] at hz; exact hz.elim
            | some z =>
              rw [hzz] at hz hzero
              simp only at hz
              cases hiz : i.zero with
              | none => rw [hiz] at hzero; simp at hzero
              | some zv =>
                rw [hiz] at hzero
                simp only [Option.bind_some] at hzero
                have hcells0 : ∀ j y, xs0[j]? = some y → ∃ b off, ad = some (b, off) ∧ w.cell? ⟨b, off + j, none⟩ = some y ∧ y.oneCell' = true := fun j y hj => by
                  cases ad with
                  | none => simp only [ImmAt] at him; subst him; simp at hj
                  | some q => obtain ⟨b, off⟩ := q; exact ⟨b, off, rfl, hr.im _ _ _ (him j y hj)⟩
                have hone0 : ∀ y ∈ xs0, y.oneCell' = true := fun y hy => by
                  obtain ⟨j, hj⟩ := List.getElem?_of_mem hy
                  obtain ⟨_, _, _, _, h⟩ := hcells0 j y hj
                  exact h
                have hf0 : ∀ w', w'.heap = w.heap → (Builtin.firstCells i.size es.length (.slice (ad.map toAddr) es.length cap)).run P w' = .ok xs0.toArray w' := fun w' hw => by
                  cases ad with
                  | none => simp only [ImmAt] at him; subst him; simp [Builtin.firstCells]
                  | some q =>
                    obtain ⟨b, off⟩ := q
                    exact run_firstCells_list (by rw [hsz]; exact l0) fun j y hj => by
                      obtain ⟨b', off', hq', hc, _⟩ := hcells0 j y hj
                      cases hq'
                      rw [cell?_of_heap (w := w) (by rw [hw])]; exact hc
                have grow : ∀ σ0, Rel σ0 Γ w → cap < es.length + ds.length → ∃ id Γ', σ0 id = none ∧
                    (Builtin.append_ #[t, u] o.type #[.slice (ad.map toAddr) es.length cap, a.eval x]).run P w = .ok (.slice (some ⟨w.heap.size, 0, none⟩) (es.length + ds.length) (grownCap w (es.length + ds.length) cap e))
                      (w.drew.alloc (.cells (xs0.toArray ++ xs.toArray ++ Builtin.zeroCells zv.cells (grownCap w (es.length + ds.length) cap e - (es.length + ds.length))) e)) ∧
                    Step Γ σ0 w Γ' (σ0.set id (some (.tok (es.length + ds.length) te.sz))) (w.drew.alloc (.cells (xs0.toArray ++ xs.toArray ++ Builtin.zeroCells zv.cells (grownCap w (es.length + ds.length) cap e - (es.length + ds.length))) e)) ∧
                    VR Γ' (.imm te.sz (es ++ ds) (.own id)) (.slice (some ⟨w.heap.size, 0, none⟩) (es.length + ds.length) (grownCap w (es.length + ds.length) cap e)) ∧ Γ.loc id = none := fun σ0 hr0 hlt => by
                  have hfit : Builtin.nextslicecap (es.length + ds.length) cap * i.bytes ≤ 281474976710656 := by
                    have a1 := nextslicecap_le hlt
                    have a2 : Builtin.nextslicecap (es.length + ds.length) cap * i.bytes ≤ 8589934592 * 1024 := Nat.mul_le_mul (by omega) (by omega)
                    omega
                  have hrun := run_append_new (P := P) (w := w) (ty := o.type) h2 u2 (fun k hk => by cases hk) hi hiz (base := ad.map toAddr) (sLen := es.length) (sCap := cap) hlen2 hf2 hf0 hlt (by omega) hfit
                  obtain ⟨id, Γ', k1, k2, k3, k5⟩ := step_grow (e := e) hr0 hzero hz hve hve2 hone0 hone2 (grownCap w (es.length + ds.length) cap e) (grownCap_ge _ _ _ _)
                  exact ⟨id, Γ', k1, hrun, k2, k3, k5⟩
                rcases hKK with ⟨happ, hK1⟩ | ⟨rfl, hKr⟩
                case inr =>
                  have hc : cap = es.length := htk
                  have hlt : cap < es.length + ds.length := by omega
                  have hfit : Builtin.nextslicecap (es.length + ds.length) cap * i.bytes ≤ 281474976710656 := by
                    have a1 := nextslicecap_le hlt
                    have a2 : Builtin.nextslicecap (es.length + ds.length) cap * i.bytes ≤ 8589934592 * 1024 := Nat.mul_le_mul (by omega) (by omega)
                    omega
                  have hrun := run_append_new (P := P) (w := w) (ty := o.type) h2 u2 (fun k hk => by cases hk) hi hiz (base := ad.map toAddr) (sLen := es.length) (sCap := cap) hlen2 hf2 hf0 hlt (by omega) hfit
                  obtain ⟨id, Γ', k1, k2, k3⟩ := step_growRef (e := e) hr hzero hve hve2 hone0 hone2 (grownCap w (es.length + ds.length) cap e) (grownCap_ge _ _ _ _)
                  refine goes_value ?_ k2 k3 (hKr id _ k1 (grownCap_ge _ _ _ _))
                  simp [execOp, ho, resolve, hp, invoke, builtin, hrun]
                cases tk with
                | no => simp [appendable] at happ
                | full =>
                  have hc : cap = es.length := htk
                  obtain ⟨id, Γ', k1, k2, k3, k4, _⟩ := grow σ hr (by omega)
                  refine goes_value ?_ k3 k4 (hK1 id k1)
                  simp [execOp, ho, resolve, hp, invoke, builtin, k2]
                | own j =>
                  simp only [appendable] at happ
                  split at happ
                  · rename_i n s hσj
                    simp only [decide_eq_true_eq] at happ
                    obtain ⟨rfl, rfl⟩ := happ
                    obtain ⟨b, off, rfl, hloc⟩ := htk
                    obtain ⟨l, hl', ho'⟩ := hr.obj _ _ hσj
                    rw [hloc] at hl'; cases hl'
                    obtain ⟨hno, arr, T, fz, hh, hsoft, hplain, hasz⟩ := ho'
                    simp only at hno hh hasz
                    cases hsoft
                    by_cases hfits : es.length + ds.length ≤ cap
                    · have hmul : (es.length + ds.length) * te.sz ≤ cap * te.sz := Nat.mul_le_mul hfits (Nat.le_refl _)
                      rw [Nat.add_mul] at hmul
                      have hrun := run_append_fit (P := P) (w := w) (ty := o.type) (off := off) h2 u2 (fun k hk => by cases hk) hi hh hlen2 (hf2 w rfl) hone2 hfits (by rw [hsz]; omega)
                      rw [hsz] at hrun
                      obtain ⟨id, Γ', k1, k2, k3, k4⟩ := step_fit hr hve hve2 hone2 hσj hloc him hfits hh hplain hasz hno
                      refine goes_value ?_ k2 k3 (hK1 id k4)
                      simp [execOp, ho, resolve, hp, toAddr, invoke, builtin, hrun]
                    · have hr0 : Rel (σ.set j none) Γ w := hr.weaken fun k q hk => by
                        by_cases h : k = j
                        · subst h; rw [St.set_same] at hk; cases hk
                        · rwa [St.set_ne _ _ h] at hk
                      obtain ⟨id, Γ', k1, k2, k3, k4, k5⟩ := grow (σ.set j none) hr0 (by omega)
                      have hstep : Step Γ σ w Γ' ((σ.set j none).set id (some (.tok (es.length + ds.length) te.sz))) (w.drew.alloc (.cells (xs0.toArray ++ xs.toArray ++ Builtin.zeroCells zv.cells (grownCap w (es.length + ds.length) cap e - (es.length + ds.length))) e)) :=
                        ⟨k3.ext, k3.rel, fun q hq hn => k3.pres q hq fun hown => hn (hown.weaken fun k p hk => by
                            by_cases h : k = j
                            · subst h; rw [St.set_same] at hk; cases hk
                            · rwa [St.set_ne _ _ h] at hk), fun q m hq hn => k3.imo q m hq fun hown => hn (hown.weaken fun k p hk => by
                            by_cases h : k = j
                            · subst h; rw [St.set_same] at hk; cases hk
                            · rwa [St.set_ne _ _ h] at hk), fun q hq => by
                          rcases k3.own q hq with h | h
                          · exact .inl (h.weaken fun k p hk => by
                              by_cases h : k = j
                              · subst h; rw [St.set_same] at hk; cases hk
                              · rwa [St.set_ne _ _ h] at hk)
                          · exact .inr h, k3.size, k3.os, k3.tape, k3.output⟩
                      have hfresh : σ id = none := by
                        by_cases h : id = j
                        · subst h; rw [hloc] at k5; cases k5
                        · rwa [St.set_ne _ _ h] at k1
                      refine goes_value ?_ hstep k4 (hK1 id hfresh)
                      simp only [Option.map_some] at k2
                      simp [execOp, ho, resolve, hp, invoke, builtin, k2]
                  · cases happ
        · exact h.elim
      · exact h.elim
    · exact h.elim
  · exact h.elim

/-- All operations. -/
theorem act_sound {o : Oper} {K : AV → St → Prop} (he : EnvRel Γ env a) (hr : Rel σ Γ w) (h : act P env σ o.op K) : Goes P Γ σ w a o K := by
  have viaRd : ∀ q, o.op = q → (match rd P env σ q with | some v => K v σ | none => False) → Goes P Γ σ w a o K := fun q hq hh => by
    split at hh
    · rename_i v hv; rw [← hq] at hv; exact goes_rd he hr hv hh
    · exact hh.elim
  cases ho : o.op <;> rw [ho] at h
  case alloc => exact act_alloc ho hr h
  case box => exact act_box ho he hr h
  case store => exact act_store ho he hr h
  case buildSlice => exact act_buildSlice ho he hr h
  case makeSlice => exact act_makeSlice ho he hr h
  case mapUpdate => exact act_mapUpdate ho he hr h
  case makeMap t r => cases r with
    | none => exact act_makeMap ho hr h
    | some r => simp only [act, rd] at h
  case call c =>
    obtain ⟨callee, args, argTypes⟩ := c
    cases callee with
    | value f => exact act_call ho he hr h
    | invoke r m => simp only [act, rd] at h
    | builtin b => cases b <;> first | exact act_append ho he hr h | exact act_delete ho he hr h | exact viaRd _ ho h
  all_goals exact viaRd _ ho h

end Go.Am
