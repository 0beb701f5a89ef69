/-
  The abstract machine's reading operations are the model's: the rest of them, and all of them together.
-/
import Derived.Test.YtbmlendfheakeaaGreatAmE
import Derived.Laws.Tables
import Derived.Laws.BytesString
import Derived.Laws.BytesArg
namespace Go.Am

variable {P : Program} {Γ : Gh} {env : Env} {σ : St} {a : Act} {w : World}

theorem vre_bytes : ∀ {es : List AV} {xs : List Value} {ns : List Int}, VRE Γ 1 es xs → byteList es = some ns → xs = ns.map (Value.int .u8)
  | [], xs, ns, h, hb => by
    simp only [VRE] at h
    simp only [byteList, Option.some.injEq] at hb
    subst h hb; rfl
  | e :: es, xs, ns, h, hb => by
    simp only [VRE] at h
    obtain ⟨y, ys, h1, h2, h3, h4⟩ := h
    cases e <;> try (simp [byteList] at hb; done)
    rename_i k n
    cases k <;> try (simp [byteList] at hb; done)
    simp only [byteList] at hb
    cases hr : byteList es with
    | none => rw [hr] at hb; simp at hb
    | some ms =>
      rw [hr] at hb
      simp only [Option.map_some, Option.some.injEq] at hb
      subst hb
      simp only [VR] at h3
      subst h3 h1
      rw [vre_bytes h4 hr]
      simp [Value.cells]

theorem rd_convert {o : Oper} {s d : TypeId} {x : Operand} (ho : o.op = .convert s d x) {v : AV} (he : EnvRel Γ env a) (hr : Rel σ Γ w) (h : rd P env σ (.convert s d x) = some v) : Reads P Γ a w o v := by
  simp only [rd] at h
  split at h
  · rename_i t1 t2 k n h1 h2 hx
    obtain ⟨i1, d1, a1, a2, a3⟩ := tiOf_info h1
    obtain ⟨i2, d2, b1, b2, b3⟩ := tiOf_info h2
    simp only [TI.mk.injEq] at a3 b3
    have e1 := sh_int a3.2.2.2.2.symm
    have e2 := sh_int b3.2.2.2.2.symm
    subst e1; subst e2
    have hp := opd_sound he hx
    simp only [VR] at hp
    cases h
    refine ⟨_, ?_, by simp only [VR]; rfl⟩
    simp [execOp, ho, hp, convert, run_underlying a2, run_underlying b2, Conv.intToInt]
  · rename_i t1 t2 n h1 h2 hx
    obtain ⟨i1, d1, a1, a2, a3⟩ := tiOf_info h1
    obtain ⟨i2, d2, b1, b2, b3⟩ := tiOf_info h2
    simp only [TI.mk.injEq] at a3 b3
    have e1 := sh_string a3.2.2.2.2.symm
    have e2 := sh_string b3.2.2.2.2.symm
    subst e1; subst e2
    have hp := opd_sound he hx
    simp only [VR] at hp
    cases h
    refine ⟨_, ?_, by simp only [VR]; rfl⟩
    simp [execOp, ho, hp, convert, run_underlying a2, run_underlying b2]
  · rename_i e t1 t2 es tk h1 h2 hx
    split at h
    · rename_i te ns hte hns
      obtain ⟨i1, d1, a1, a2, a3⟩ := tiOf_info h1
      obtain ⟨i2, d2, b1, b2, b3⟩ := tiOf_info h2
      obtain ⟨i3, d3, c1, c2, c3⟩ := tiOf_info hte
      simp only [TI.mk.injEq] at a3 b3 c3
      have e1 := sh_slice a3.2.2.2.2.symm
      have e2 := sh_string b3.2.2.2.2.symm
      have e3 := sh_int c3.2.2.2.2.symm
      subst e1; subst e2; subst e3
      have hp := opd_sound he hx
      simp only [VR] at hp
      obtain ⟨a', cap, xs, hp, h3, h4, h5, h6, _⟩ := hp
      have hxs := vre_bytes h5 hns
      cases h
      refine ⟨.string (bytesStr ns), ?_, by simp only [VR]⟩
      have hrun : (convert s d (a.eval x)).run P w = .ok (.string (bytesStr ns)) w := by
        rw [hp]
        cases a' with
        | none =>
          obtain ⟨h7, _⟩ := h4 rfl
          subst h7
          simp only [byteList, Option.some.injEq] at hns
          subst hns
          exact run_convert_bytes_nil _ _ _ a2 c2 _ _ _ b2
        | some p =>
          simp only [Option.map_some, toAddr]
          rw [run_convert_bytes_string w s d _ _ _ _ a2 c2 b2]
          have hlen := h5.length
          have hload := run_loadCells_list (P := P) w ⟨p.1, p.2, none⟩ xs (fun j x hj => by
            rw [add_none]
            exact (hr.im _ _ _ (h6 j x hj)).1)
          rw [show xs.length = es.length from by rw [hlen, Nat.mul_one], hxs] at hload
          exact run_bytesToString w _ _ _ ns hload
      simp [execOp, ho, hrun]
    · cases h
  · cases h

theorem cellsOf_info {t : TypeId} {i : TypeInfo} (h : P.info? t = some i) : P.cellsOf t = i.size := by simp [Program.cellsOf, h]

theorem aggOf_eq (t : TypeId) : (match P.underlying t with | some (.struct _) | some (.array ..) => true | _ => false) = ((P.underlying t).map isAggD).getD false := by
  cases P.underlying t with
  | none => rfl
  | some d => cases d <;> rfl

theorem rd_field {o : Oper} {t : TypeId} {x : Operand} {f : Nat} (ho : o.op = .field t x f) {v : AV} (he : EnvRel Γ env a) (h : rd P env σ (.field t x f) = some v) : Reads P Γ a w o v := by
  simp only [rd] at h
  split at h
  · rename_i ti cs hti hx
    obtain ⟨i, d, h1, h2, h3⟩ := tiOf_info hti
    simp only [TI.mk.injEq] at h3
    obtain ⟨gs, rfl, hfs, _, hok⟩ := sh_struct h3.2.2.2.2.symm
    have hp := opd_sound he hx
    simp only [VR] at hp
    obtain ⟨xs, hp, hv⟩ := hp
    subst hfs
    have hget : ∀ r, (gs.toList.map (fun f => (f.offset, P.cellsOf f.type, match P.underlying f.type with | some (.struct _) | some (.array ..) => true | _ => false)))[f]? = some r →
        ∃ g, gs[f]? = some g ∧ g ∈ gs.toList ∧ r = (g.offset, P.cellsOf g.type, ((P.underlying g.type).map isAggD).getD false) := fun r hr => by
      rw [List.getElem?_map] at hr
      cases hg : gs.toList[f]? with
      | none => rw [hg] at hr; simp at hr
      | some g =>
        rw [hg] at hr
        simp only [Option.map_some, Option.some.injEq, aggOf_eq] at hr
        exact ⟨g, by simpa using hg, List.mem_of_getElem? hg, hr.symm⟩
    split at h
    · rename_i off size hr
      obtain ⟨g, hg, hmem, hr⟩ := hget _ hr
      simp only [Prod.mk.injEq] at hr
      obtain ⟨rfl, rfl, hagg⟩ := hr
      obtain ⟨k1, k2⟩ := hok g hmem
      obtain ⟨ig, hig⟩ := Option.isSome_iff_exists.1 k1
      obtain ⟨dg, hdg⟩ := Option.isSome_iff_exists.1 k2
      rw [hdg] at hagg
      simp only [Option.map_some, Option.getD_some] at hagg
      rw [cellsOf_info hig] at h
      simp only [cut] at h
      split at h
      · rename_i hle
        simp only [Option.map_some, Option.some.injEq] at h
        subst h
        have hlen := hv.length
        refine ⟨.agg ((xs.drop g.offset).take ig.size).toArray, ?_, ?_⟩
        · have hag : (isAgg g.type).run P w = .ok true w := by
            have : (isAgg g.type).run P w = .ok (isAggD dg) w := by
              simp only [isAgg, Sem.run_bind, run_underlying hdg]
              cases dg <;> simp [Result.andThen, isAggD]
            rw [this, ← hagg]
          simp [execOp, ho, hp, Instr.field, run_underlying h2, hg, asAgg, part, hag, run_sizeOf' hig]
        · simp only [VR]; exact ⟨_, rfl, (hv.drop _).take _⟩
      · simp at h
    · rename_i off size hr
      obtain ⟨g, hg, hmem, hr⟩ := hget _ hr
      simp only [Prod.mk.injEq] at hr
      obtain ⟨rfl, rfl, hagg⟩ := hr
      obtain ⟨k1, k2⟩ := hok g hmem
      obtain ⟨dg, hdg⟩ := Option.isSome_iff_exists.1 k2
      rw [hdg] at hagg
      simp only [Option.map_some, Option.getD_some] at hagg
      obtain ⟨y, hy, hr⟩ := hv.get h
      have hpt := run_part_plain (P := P) (w := w) hdg hagg.symm (cs := xs.toArray) (off := g.offset) (x := y) (by simpa using hy)
      exact ⟨y, by simp [execOp, ho, hp, Instr.field, run_underlying h2, hg, asAgg, hpt], hr⟩
    · cases h
  · cases h

theorem rd_fieldAddr {o : Oper} {t : TypeId} {x : Operand} {f : Nat} (ho : o.op = .fieldAddr t x f) {v : AV} (he : EnvRel Γ env a) (h : rd P env σ (.fieldAddr t x f) = some v) : Reads P Γ a w o v := by
  simp only [rd] at h
  split at h
  · rename_i ti hti
    obtain ⟨i, d, h1, h2, h3⟩ := tiOf_info hti
    simp only [TI.mk.injEq] at h3
    obtain ⟨gs, rfl, hfs, _, _⟩ := sh_struct h3.2.2.2.2.symm
    subst hfs
    have hget : ∀ off size q, (gs.toList.map (fun f => (f.offset, P.cellsOf f.type, match P.underlying f.type with | some (.struct _) | some (.array ..) => true | _ => false)))[f]? = some (off, size, q) →
        size ≠ 0 → ∃ g ig, gs[f]? = some g ∧ off = g.offset ∧ P.info? g.type = some ig ∧ ig.size ≠ 0 := fun off size q hr hz => by
      rw [List.getElem?_map] at hr
      cases hg : gs.toList[f]? with
      | none => rw [hg] at hr; simp at hr
      | some g =>
        rw [hg] at hr
        simp only [Option.map_some, Option.some.injEq, Prod.mk.injEq] at hr
        obtain ⟨rfl, rfl, _⟩ := hr
        cases hi : P.info? g.type with
        | none => simp [Program.cellsOf, hi] at hz
        | some ig => exact ⟨g, ig, by simpa using hg, rfl, hi, by rwa [cellsOf_info hi] at hz⟩
    split at h
    · rename_i off size q id p hr hx
      split at h
      · cases h
      · rename_i hz
        cases h
        obtain ⟨g, ig, hg, rfl, hig, hz'⟩ := hget _ _ _ hr hz
        have hp := opd_sound he hx
        simp only [VR] at hp
        obtain ⟨b, c, hl, hp⟩ := hp
        refine ⟨.pointer (some ⟨b, p + g.offset, none⟩), ?_, ?_⟩
        · simp [execOp, ho, hp, Instr.fieldAt, run_underlying h2, hg, Instr.sureAddr, fieldPlace, run_sizeOf' hig, hz', add_none]
        · simp only [VR]; exact ⟨b, c, hl, rfl⟩
    · rename_i off size q cs p hr hx
      split at h
      · cases h
      · rename_i hz
        cases h
        obtain ⟨g, ig, hg, rfl, hig, hz'⟩ := hget _ _ _ hr hz
        have hp := opd_sound he hx
        simp only [VR] at hp
        obtain ⟨b, o', xs, hp, hv, him⟩ := hp
        refine ⟨.pointer (some ⟨b, o' + (p + g.offset), none⟩), ?_, ?_⟩
        · simp [execOp, ho, hp, Instr.fieldAt, run_underlying h2, hg, Instr.sureAddr, fieldPlace, run_sizeOf' hig, hz', add_none, Nat.add_assoc]
        · simp only [VR]; exact ⟨b, o', xs, rfl, hv, him⟩
    · cases h
  · cases h

theorem elemSz_slice {ti : TI} {e : TypeId} {sz : Nat} (hs : ti.sh = .slice e) (h : elemSz P ti.sh = some sz) : ∃ i, P.info? e = some i ∧ i.size = sz := by
  rw [hs] at h
  simp only [elemSz] at h
  cases ht : tiOf P e with
  | none => rw [ht] at h; simp at h
  | some te =>
    rw [ht] at h
    obtain ⟨i, d, h1, h2, rfl⟩ := tiOf_info ht
    exact ⟨i, h1, by simpa using h⟩

theorem elemSz_array {ti : TI} {n : Nat} {e : TypeId} {sz : Nat} (hs : ti.sh = .array n e) (h : elemSz P ti.sh = some sz) : ∃ i, P.info? e = some i ∧ i.size = sz := by
  rw [hs] at h
  simp only [elemSz] at h
  cases ht : tiOf P e with
  | none => rw [ht] at h; simp at h
  | some te =>
    rw [ht] at h
    obtain ⟨i, d, h1, h2, rfl⟩ := tiOf_info ht
    exact ⟨i, h1, by simpa using h⟩

theorem rd_indexAddr {o : Oper} {t : TypeId} {x y : Operand} (ho : o.op = .indexAddr t x y) {v : AV} (he : EnvRel Γ env a) (h : rd P env σ (.indexAddr t x y) = some v) : Reads P Γ a w o v := by
  simp only [rd] at h
  split at h
  · rename_i ti u k n hti hx hy
    obtain ⟨i, d, h1, h2, h3⟩ := tiOf_info hti
    have hsh : ti.sh = shOf P t d := by rw [h3]
    have hi := opd_sound he hy
    simp only [VR] at hi
    have hp := opd_sound he hx
    split at h
    · rename_i sz hsz
      unfold indexA at h
      split at h
      · rename_i e s2 es tk heq
        obtain ⟨ie, hie, hies⟩ := elemSz_slice heq hsz
        have hd := sh_slice (hsh.symm.trans heq)
        subst hd
        split at h
        · rename_i hb
          obtain ⟨hb1, hb2, hs2⟩ := hb
          subst hs2
          split at h
          · rename_i e1 he1
            · cases h
              simp only [VR] at hp
              obtain ⟨ad, cap, xs, hp, hcap, hnil, hve, him, _⟩ := hp
              cases ad with
              | none => rw [(hnil rfl).1] at he1; simp at he1
              | some q =>
                obtain ⟨b, off⟩ := q
                obtain ⟨z, hz, hzs, hzc⟩ := hve.get he1
                refine ⟨.pointer (some ⟨b, off + n.toNat * s2 + 0, none⟩), ?_, ?_⟩
                · simp only [Option.map_some, toAddr] at hp
                  simp [execOp, ho, hp, hi, Instr.indexAt, asIntOf, run_underlying h2, hb1, hb2, run_sizeOf' hie, hies, add_none]
                · simp only [VR]
                  refine ⟨b, off + n.toNat * s2, z.cells.toList, rfl, hz.cells, fun j q hj => ?_⟩
                  have := him _ _ (hzc j q hj)
                  rwa [show off + (n.toNat * s2 + j) = off + n.toNat * s2 + j from by omega] at this
          · cases h
        · cases h
      · rename_i e id off len cap heq
        obtain ⟨ie, hie, hies⟩ := elemSz_slice heq hsz
        have hd := sh_slice (hsh.symm.trans heq)
        subst hd
        split at h
        · rename_i hb
          cases h
          simp only [VR] at hp
          obtain ⟨b, c, hl, _, hp⟩ := hp
          refine ⟨.pointer (some ⟨b, off + n.toNat * sz, none⟩), ?_, ?_⟩
          · simp [execOp, ho, hp, hi, Instr.indexAt, asIntOf, run_underlying h2, hb.1, hb.2, run_sizeOf' hie, hies, add_none]
          · simp only [VR]; exact ⟨b, c, hl, rfl⟩
        · cases h
      · rename_i len e id off heq
        obtain ⟨ie, hie, hies⟩ := elemSz_array heq hsz
        have hd := sh_array (hsh.symm.trans heq)
        subst hd
        split at h
        · rename_i hb
          cases h
          simp only [VR] at hp
          obtain ⟨b, c, hl, hp⟩ := hp
          refine ⟨.pointer (some ⟨b, off + n.toNat * sz, none⟩), ?_, ?_⟩
          · simp [execOp, ho, hp, hi, Instr.indexAt, Instr.sureAddr, asIntOf, run_underlying h2, hb.1, hb.2, run_sizeOf' hie, hies, add_none]
          · simp only [VR]; exact ⟨b, c, hl, rfl⟩
        · cases h
      · rename_i len e cs off heq
        obtain ⟨ie, hie, hies⟩ := elemSz_array heq hsz
        have hd := sh_array (hsh.symm.trans heq)
        subst hd
        split at h
        · rename_i hb
          cases h
          simp only [VR] at hp
          obtain ⟨b, o', xs, hp, hv, him⟩ := hp
          refine ⟨.pointer (some ⟨b, o' + (off + n.toNat * sz), none⟩), ?_, ?_⟩
          · simp [execOp, ho, hp, hi, Instr.indexAt, Instr.sureAddr, asIntOf, run_underlying h2, hb.1, hb.2, run_sizeOf' hie, hies, add_none, Nat.add_assoc]
          · simp only [VR]; exact ⟨b, o', xs, rfl, hv, him⟩
        · cases h
      · cases h
    · cases h
  · cases h

theorem rd_index {o : Oper} {t : TypeId} {x y : Operand} (ho : o.op = .index t x y) {v : AV} (he : EnvRel Γ env a) (h : rd P env σ (.index t x y) = some v) : Reads P Γ a w o v := by
  simp only [rd] at h
  split at h
  · rename_i ti s k n hti hx hy
    obtain ⟨i, d, h1, h2, h3⟩ := tiOf_info hti
    simp only [TI.mk.injEq] at h3
    have hd := sh_string h3.2.2.2.2.symm
    subst hd
    have hp := opd_sound he hx
    have hi := opd_sound he hy
    simp only [VR] at hp hi
    split at h
    · rename_i hn
      split at h
      · rename_i b hb
        cases h
        have hb' : s[n.toNat]? = some b := by
          obtain ⟨hlt, rfl⟩ := Array.getElem?_eq_some_iff.1 hb
          exact getElem?_pos s n.toNat hlt
        refine ⟨.int .u8 b.toNat, ?_, by simp only [VR]⟩
        simp [execOp, ho, hp, hi, Instr.index, asIntOf, run_underlying h2, hn, hb']
      · cases h
    · cases h
  · rename_i ti len e cs k n hti hx hy
    obtain ⟨i, d, h1, h2, h3⟩ := tiOf_info hti
    simp only [TI.mk.injEq] at h3
    have hd := sh_array h3.2.2.2.2.symm
    subst hd
    have hp := opd_sound he hx
    have hi := opd_sound he hy
    simp only [VR] at hp hi
    obtain ⟨xs, hp, hv⟩ := hp
    split at h
    · rename_i hb
      split at h
      · rename_i te hte
        obtain ⟨ie, de, k1, k2, rfl⟩ := tiOf_info hte
        have hag : (isAgg e).run P w = .ok (isAggD de) w := by
          simp only [isAgg, Sem.run_bind, run_underlying k2]
          cases de <;> simp [Result.andThen, isAggD]
        unfold lod at h
        simp only at h
        split at h
        · rename_i hq
          simp only [cut] at h
          split at h
          · rename_i hle
            simp only [Option.map_some, Option.some.injEq] at h
            subst h
            refine ⟨.agg ((xs.drop (n.toNat * ie.size)).take ie.size).toArray, ?_, ?_⟩
            · simp [execOp, ho, hp, hi, Instr.index, asIntOf, run_underlying h2, hb.1, hb.2, run_sizeOf' k1, part, hag, hq]
            · simp only [VR]; exact ⟨_, rfl, (hv.drop _).take _⟩
          · simp at h
        · rename_i hq
          simp only [Bool.not_eq_true] at hq
          obtain ⟨y, hy', hr⟩ := hv.get h
          have hpt := run_part_plain (P := P) (w := w) k2 hq (cs := xs.toArray) (off := n.toNat * ie.size) (x := y) (by simpa using hy')
          exact ⟨y, by simp [execOp, ho, hp, hi, Instr.index, asIntOf, run_underlying h2, hb.1, hb.2, run_sizeOf' k1, hpt], hr⟩
      · cases h
    · cases h
  · cases h

theorem lowB_run {lo : Option AV} {l : Nat} (h : lowB lo = some l) {p : Option Operand} (hp : (lo = none ∧ p = none) ∨ ∃ y q, lo = some y ∧ p = some q ∧ VR Γ y (a.eval q)) :
    (l = 0 ∧ p.map a.eval = none) ∨ ∃ k, p.map a.eval = some (.int k l) := by
  rcases hp with ⟨rfl, rfl⟩ | ⟨y, q, rfl, rfl, hy⟩
  · simp only [lowB, Option.some.injEq] at h; exact .inl ⟨h.symm, rfl⟩
  · cases y <;> simp only [lowB] at h <;> first | (cases h; done) | skip
    rename_i k n
    split at h
    · rename_i hn
      cases h
      simp only [VR] at hy
      exact .inr ⟨k, by simp [hy, Int.toNat_of_nonneg hn]⟩
    · cases h

theorem highB_run {len : Nat} {hi : Option AV} {l : Nat} (h : highB len hi = some l) {p : Option Operand} (hp : (hi = none ∧ p = none) ∨ ∃ y q, hi = some y ∧ p = some q ∧ VR Γ y (a.eval q)) :
    (l = len ∧ p.map a.eval = none) ∨ ∃ k, p.map a.eval = some (.int k l) := by
  rcases hp with ⟨rfl, rfl⟩ | ⟨y, q, rfl, rfl, hy⟩
  · simp only [highB, Option.some.injEq] at h; exact .inl ⟨h.symm, rfl⟩
  · cases y <;> simp only [highB] at h <;> first | (cases h; done) | skip
    rename_i k n
    split at h
    · rename_i hn
      cases h
      simp only [VR] at hy
      exact .inr ⟨k, by simp [hy, Int.toNat_of_nonneg hn]⟩
    · cases h

theorem run_sliceBounds {lo hi : Option Value} {isS : Bool} {len cap l h : Nat} (hl : (l = 0 ∧ lo = none) ∨ ∃ k, lo = some (.int k l)) (hh : (h = len ∧ hi = none) ∨ ∃ k, hi = some (.int k h)) (h1 : l ≤ h) (h2 : h ≤ cap) :
    (Instr.sliceBounds isS len cap lo hi none).run P w = .ok (l, h, cap) w := by
  rcases hl with ⟨rfl, rfl⟩ | ⟨k, rfl⟩ <;> rcases hh with ⟨rfl, rfl⟩ | ⟨k', rfl⟩ <;>
    simp [Instr.sliceBounds, Instr.sliceBound, asIntOf, h1, h2]

theorem run_sliceBounds3 {lo : Option Value} {isS : Bool} {len cap l h : Nat} {k' k2 : IntKind} (hl : (l = 0 ∧ lo = none) ∨ ∃ k, lo = some (.int k l)) (h1 : l ≤ h) (h2 : h ≤ cap) :
    (Instr.sliceBounds isS len cap lo (some (.int k' h)) (some (.int k2 h))).run P w = .ok (l, h, h) w := by
  rcases hl with ⟨rfl, rfl⟩ | ⟨k, rfl⟩ <;> simp [Instr.sliceBounds, Instr.sliceBound, asIntOf, h1, h2]

theorem VR_sliced {sz s2 l h m cap : Nat} {es : List AV} {xs : List Value} {ad : Option (Nat × Nat)} {tk : Tk} (hve : VRE Γ s2 es xs) (him : ImmAt Γ ad xs) (hnil : ad = none → es = [] ∧ cap = 0)
    (h1 : l ≤ h) (h2 : h ≤ es.length) (hs : s2 = sz ∨ es = []) (hm : h ≤ m) (hmc : m ≤ cap) (htk : ∀ ad', TkOk Γ tk ad' (h - l) (m - l)) :
    VR Γ (.imm sz ((es.drop l).take (h - l)) tk) (.slice (if m = l then ad.map toAddr else (ad.map toAddr).map (·.add (l * sz))) (h - l) (m - l)) := by
  have hlen : ((es.drop l).take (h - l)).length = h - l := by simp; omega
  simp only [VR, hlen]
  by_cases hml : m = l
  · have hl : h = l := by omega
    subst hl
    rw [if_pos hml]
    refine ⟨ad, m - h, [], rfl, by omega, fun _ => ⟨by simp, by omega⟩, ?_, ?_, htk ad⟩
    · simp [VRE]
    · cases ad with
      | none => simp [ImmAt]
      | some q => intro i x hi; simp at hi
  · rw [if_neg hml]
    cases ad with
    | none => obtain ⟨_, hc⟩ := hnil rfl; omega
    | some q =>
      obtain ⟨b, off⟩ := q
      refine ⟨some (b, off + l * sz), m - l, (xs.drop (l * sz)).take ((h - l) * sz), ?_, by omega, by simp, ?_, (him.drop _).take _, htk _⟩
      · simp [toAddr, add_none]
      · rcases hs with rfl | rfl
        · exact (hve.drop l).take (h - l)
        · simp only [VRE] at hve; subst hve; simp [VRE]

theorem rd_slice {o : Oper} {t : TypeId} {x : Operand} {lo hi mx : Option Operand} (ho : o.op = .slice t x lo hi mx) {v : AV} (he : EnvRel Γ env a) (h : rd P env σ (.slice t x lo hi mx) = some v) : Reads P Γ a w o v := by
  simp only [rd] at h
  split at h
  · rename_i ti u ll hh mm hti hx hlo hhi hmx
    obtain ⟨i, d, h1, h2, h3⟩ := tiOf_info hti
    have hsh : ti.sh = shOf P t d := by rw [h3]
    have hp := opd_sound he hx
    have el := opdO_sound he hlo
    have eh := opdO_sound he hhi
    have em := opdO_sound he hmx
    split at h
    · rename_i sz hsz
      unfold sliced at h
      split at h
      · rename_i s heq
        have hd := sh_string (hsh.symm.trans heq)
        subst hd
        split at h
        · rename_i l hgh hl hg
          split at h
          · rename_i hb
            cases h
            simp only [VR] at hp
            have hm : mx = none := by
              rcases em with ⟨_, hm⟩ | ⟨y, q, hm, _, _⟩
              · exact hm
              · cases hm
            subst hm
            have hr := run_sliceBounds (P := P) (w := w) (isS := false) (len := s.size) (cap := s.size) (lowB_run (a := a) hl el) (highB_run (a := a) hg eh) hb.1 hb.2
            refine ⟨.string (s.extract l hgh), ?_, by simp only [VR]⟩
            simp [execOp, ho, hp, Instr.sliceAt, Instr.slice, run_underlying h2, hr]
          · cases h
        · cases h
      · rename_i e s2 es tk heq
        obtain ⟨ie, hie, hies⟩ := elemSz_slice heq hsz
        have hd := sh_slice (hsh.symm.trans heq)
        subst hd
        simp only [VR] at hp
        obtain ⟨ad, cap, xs, hp, hcap, hnil, hve, him, _⟩ := hp
        split at h
        · rename_i l hgh hl hg
          split at h
          · rename_i hb
            cases h
            have hm : mx = none := by
              rcases em with ⟨_, hm⟩ | ⟨y, q, hm, _, _⟩
              · exact hm
              · cases hm
            subst hm
            have hr := run_sliceBounds (P := P) (w := w) (isS := true) (len := es.length) (cap := cap) (lowB_run (a := a) hl el) (highB_run (a := a) hg eh) hb.1 (by omega)
            refine ⟨.slice (if cap = l then ad.map toAddr else (ad.map toAddr).map (·.add (l * sz))) (hgh - l) (cap - l), ?_, ?_⟩
            · simp [execOp, ho, hp, Instr.sliceAt, Instr.slice, run_underlying h2, hr, run_sizeOf' hie, hies]
            · exact VR_sliced (tk := .no) hve him hnil hb.1 hb.2.1 hb.2.2 (by omega) (Nat.le_refl _) (fun _ => trivial)
          · cases h
        · rename_i l hgh k m hl hg
          split at h
          · rename_i hb
            obtain ⟨hb1, hb2, hb3, rfl, hb4⟩ := hb
            cases h
            rcases highB_run (a := a) hg eh with ⟨_, hx2⟩ | ⟨k1, hx2⟩
            · rcases eh with ⟨hz, _⟩ | ⟨y, q, _, hz, _⟩
              · rw [hz] at hb4; simp at hb4
              · rw [hz] at hx2; simp at hx2
            · rcases em with ⟨hm, _⟩ | ⟨y, q, hm, hq, hy⟩
              · cases hm
              · cases hm
                simp only [VR] at hy
                subst hq
                have hr := run_sliceBounds3 (P := P) (w := w) (isS := true) (len := es.length) (cap := cap) (k' := k1) (k2 := k) (lowB_run (a := a) hl el) hb1 (Nat.le_trans hb2 hcap)
                rw [← hx2] at hr
                refine ⟨.slice (if hgh = l then ad.map toAddr else (ad.map toAddr).map (·.add (l * sz))) (hgh - l) (hgh - l), ?_, ?_⟩
                · simp [execOp, ho, hp, hy, Instr.sliceAt, Instr.slice, run_underlying h2, hr, run_sizeOf' hie, hies]
                · exact VR_sliced (tk := .full) hve him hnil hb1 hb2 hb3 (Nat.le_refl _) (by omega) (fun _ => rfl)
          · cases h
        · cases h
      · rename_i e id off len cap heq
        obtain ⟨ie, hie, hies⟩ := elemSz_slice heq hsz
        have hd := sh_slice (hsh.symm.trans heq)
        subst hd
        simp only [VR] at hp
        obtain ⟨b, c, hloc, hle, hp⟩ := hp
        split at h
        · rename_i l hgh hl hg
          split at h
          · rename_i hb
            cases h
            have hm : mx = none := by
              rcases em with ⟨_, hm⟩ | ⟨y, q, hm, _, _⟩
              · exact hm
              · cases hm
            subst hm
            have hr := run_sliceBounds (P := P) (w := w) (isS := true) (len := len) (cap := cap) (lowB_run (a := a) hl el) (highB_run (a := a) hg eh) hb.1 hb.2.1
            refine ⟨.slice (some ⟨b, off + l * sz, none⟩) (hgh - l) (cap - l), ?_, ?_⟩
            · have e1 : (if cap = l then (some (⟨b, off, none⟩ : Addr)) else (some (⟨b, off, none⟩ : Addr)).map (·.add (l * sz))) = some ⟨b, off + l * sz, none⟩ := by
                split
                · rename_i hc
                  have : l = 0 := by omega
                  subst this; simp
                · simp [add_none]
              have e2 := e1
              simp only [Option.map_some] at e2
              simp [execOp, ho, hp, Instr.sliceAt, Instr.slice, run_underlying h2, hr, run_sizeOf' hie, hies, e2]
            · simp only [VR]; exact ⟨b, c, hloc, by omega, rfl⟩
          · cases h
        · cases h
      · rename_i n e id off heq
        obtain ⟨ie, hie, hies⟩ := elemSz_array heq hsz
        have hd := sh_array (hsh.symm.trans heq)
        subst hd
        simp only [VR] at hp
        obtain ⟨b, c, hloc, hp⟩ := hp
        split at h
        · rename_i l hgh hl hg
          split at h
          · rename_i hb
            cases h
            have hm : mx = none := by
              rcases em with ⟨_, hm⟩ | ⟨y, q, hm, _, _⟩
              · exact hm
              · cases hm
            subst hm
            have hr := run_sliceBounds (P := P) (w := w) (isS := false) (len := n) (cap := n) (lowB_run (a := a) hl el) (highB_run (a := a) hg eh) hb.1 hb.2.1
            refine ⟨.slice (some ⟨b, off + l * sz, none⟩) (hgh - l) (n - l), ?_, ?_⟩
            · have e1 : (if n = l then (⟨b, off, none⟩ : Addr) else ⟨b, off + l * sz, none⟩) = ⟨b, off + l * sz, none⟩ := by
                split
                · rename_i hc
                  have : l = 0 := by omega
                  subst this; simp
                · rfl
              simp [execOp, ho, hp, Instr.sliceAt, Instr.sureAddr, run_underlying h2, hr, run_sizeOf' hie, hies, add_none, e1]
            · simp only [VR]; exact ⟨b, c, hloc, by omega, rfl⟩
          · cases h
        · cases h
      · cases h
    · cases h
  · cases h

theorem parts_sound (he : EnvRel Γ env a) : ∀ {ps : List (Nat × Operand)} {as : List (Nat × AV)}, parts env ps = some as →
    as.map Prod.fst = ps.map Prod.fst ∧ VRL Γ (as.map Prod.snd) (ps.map fun p => a.eval p.2)
  | [], as, h => by simp [parts] at h; subst h; exact ⟨rfl, VRL.nil⟩
  | (i, x) :: ps, as, h => by
    simp only [parts] at h
    split at h
    · rename_i p q h1 h2
      cases h
      obtain ⟨e1, e2⟩ := parts_sound he h2
      exact ⟨by simp [e1], VRL.cons (opd_sound he h1) e2⟩
    · cases h

theorem splice_foldl (vs : List Value) (off : Nat) : ∀ (k : Nat) (arr : Array Value), off + k + vs.length ≤ arr.size →
    (vs.zipIdx k).foldl (fun cs (p : Value × Nat) => cs.setIfInBounds (off + p.2) p.1) arr = (arr.toList.take (off + k) ++ vs ++ arr.toList.drop (off + k + vs.length)).toArray := by
  induction vs with
  | nil => intro k arr _; simp
  | cons v vs ih =>
    intro k arr h
    simp only [List.length_cons] at h
    simp only [List.zipIdx_cons, List.foldl_cons]
    rw [ih (k + 1) _ (by simp; omega)]
    congr 1
    simp only [Array.toList_setIfInBounds]
    have e1 : off + (k + 1) = off + k + 1 := by omega
    rw [e1, List.take_add_one, List.take_set_of_le (by omega)]
    have hlt : off + k < arr.toList.length := by simp; omega
    rw [List.getElem?_set_self hlt]
    simp only [Option.toList_some, List.length_cons]
    rw [List.drop_set_of_lt (by omega)]
    have e2 : off + k + 1 + vs.length = off + k + (vs.length + 1) := by omega
    rw [e2]
    simp

theorem fill_sound (place : Nat → Option (Nat × Nat)) (fs : List (Nat × Nat × Bool)) (hplace : ∀ i, place i = (fs[i]?).map fun f => (f.1, f.2.1)) :
    ∀ (as : List (Nat × AV)) (vs : List (Nat × Value)) (cs : List AV) (arr : Array Value) (r : List AV), fillA fs cs as = some r → as.map Prod.fst = vs.map Prod.fst → VRL Γ (as.map Prod.snd) (vs.map Prod.snd) → VRL Γ cs arr.toList →
      ∃ out, Instr.fill place arr vs = some out ∧ VRL Γ r out.toList
  | [], vs, cs, arr, r, h, h1, _, h3 => by
    cases vs with
    | nil => simp [fillA] at h; subst h; exact ⟨arr, rfl, h3⟩
    | cons v vs => simp at h1
  | (i, x) :: as, vs, cs, arr, r, h, h1, h2, h3 => by
    cases vs with
    | nil => simp at h1
    | cons v vs =>
      obtain ⟨i', v⟩ := v
      simp only [List.map_cons, List.cons.injEq] at h1
      obtain ⟨rfl, h1⟩ := h1
      obtain ⟨y, ys, he, hx, hxs⟩ := VRL.cons_inv h2
      simp only [List.map_cons, List.cons.injEq] at he
      obtain ⟨rfl, rfl⟩ := he
      simp only [fillA] at h
      split at h
      · rename_i off size q hf
        split at h
        · rename_i hc
          have hsz : v.cells.size = size := by rw [hx.cells_size]; exact hc.1
          have hlen := h3.length
          simp only [Array.length_toList] at hlen
          have hle : off + v.cells.size ≤ arr.size := by rw [hsz, hlen]; exact hc.2
          have hfold := splice_foldl v.cells.toList off 0 arr (by simpa using hle)
          simp only [Nat.add_zero, Array.length_toList] at hfold
          have hnew : VRL Γ (splice cs off x.cells) (arr.toList.take off ++ v.cells.toList ++ arr.toList.drop (off + v.cells.size)) := by
            unfold splice
            rw [hx.cells_size]
            exact ((h3.take off).append hx.cells).append (h3.drop _)
          obtain ⟨out, ho, hr⟩ := fill_sound place fs hplace as vs _ (arr.toList.take off ++ v.cells.toList ++ arr.toList.drop (off + v.cells.size)).toArray r h h1 hxs (by simpa using hnew)
          refine ⟨out, ?_, hr⟩
          simp only [Instr.fill, hplace, hf, Option.map_some]
          rw [if_neg (by simp [hsz]; omega), ← ho, ← hfold, ← Array.foldl_toList, Array.toList_zipIdx]
        · cases h
      · cases h

theorem places_of : ∀ {l : List Field}, (∀ g ∈ l, (P.info? g.type).isSome = true) → l.mapM (fun f => (P.info? f.type).map fun i => (f.offset, i.size)) = some (l.map fun f => (f.offset, P.cellsOf f.type))
  | [], _ => by simp
  | g :: l, h => by
    obtain ⟨ig, hig⟩ := Option.isSome_iff_exists.1 (h g (by simp))
    have ih := places_of (l := l) fun g hg => h g (by simp [hg])
    simp [List.mapM_cons, hig, ih, cellsOf_info hig]

theorem rd_build {o : Oper} {t : TypeId} {ps : Array (Nat × Operand)} (ho : o.op = .build t ps) {v : AV} (he : EnvRel Γ env a) (h : rd P env σ (.build t ps) = some v) : Reads P Γ a w o v := by
  simp only [rd] at h
  split at h
  · rename_i z ff qq as hti has
    obtain ⟨i, d, h1, h2, h3⟩ := tiOf_info hti
    simp only [TI.mk.injEq] at h3
    obtain ⟨gs, rfl, hfs, _, hok⟩ := sh_struct h3.2.2.2.2.symm
    obtain ⟨e1, e2⟩ := parts_sound he has
    cases hf : fillA _ z as with
    | none => rw [hf] at h; simp at h
    | some r =>
      rw [hf] at h
      simp at h
      subst h
      cases hz : i.zero with
      | none => rw [hz] at h3; simp at h3
      | some zv =>
        rw [hz] at h3
        simp only [Option.bind_some] at h3
        have hzv := ofVal_sound (Γ := Γ) h3.2.2.2.1.symm
        have hzc := hzv.cells
        simp only [AV.cells] at hzc
        subst hfs
        obtain ⟨out, hfill, hr⟩ := fill_sound (Γ := Γ) ((gs.toList.map fun f => (f.offset, P.cellsOf f.type)).toArray[·]?) _ (fun j => by simp [Function.comp_def]) as (ps.toList.map fun p => (p.1, a.eval p.2)) z zv.cells r hf
          (by rw [e1]; simp) (by simpa [Function.comp_def] using e2) hzc
        refine ⟨.agg out, ?_, ?_⟩
        · have hb : P.built t (ps.map fun (i, x) => (i, a.eval x)).toList = some out := by
            unfold Program.built
            simp only [h1, h2, hz, places_of fun g hg => (hok g hg).1]
            rw [← hfill]; simp
          have := run_build (P := P) w t _ out hb
          simp only [execOp, ho, Sem.run_bind, this, Result.andThen_ok, Sem.run_pure]
        · simp only [VR]; exact ⟨out.toList, by simp, hr⟩
  · cases h

theorem bytes_beq (a b : ByteArray) : (a == b) = decide (a = b) := by rw [beq_toListBytes, bytes_toList_eq]

/-- A key is sought among the keys of a map. -/
theorem findNow_sound {t : TypeId} {d : TypeDesc} {key : AV} {ck : Value} (hk : keyLike (shOf P t d) key = true) (hv : VR Γ key ck) : ∀ (es : List (AV × AV)) (ents : List MapEntry) (n : Nat),
    MapRel Γ es ents → es.all (fun e => keyLike (shOf P t d) e.1) = true →
    match mfind key es with
    | some v => ∃ j cv, Instr.findNow d ck ents n = some (some (n + j, cv)) ∧ VR Γ v cv ∧ j < ents.length
    | none => Instr.findNow d ck ents n = some none
  | [], ents, n, hm, _ => by
    simp only [MapRel] at hm; subst hm
    simp [mfind, Instr.findNow]
  | (k', v') :: es, ents, n, hm, ha => by
    obtain ⟨e, r, rfl, h1, h2, h3⟩ := hm
    simp only [List.all_cons, Bool.and_eq_true] at ha
    have ih := findNow_sound hk hv es r (n + 1) h3 ha.2
    have hsame : Instr.sameNow d ck e.key = some (keyEq key k') := by
      have hk' := ha.1
      unfold keyLike at hk hk'
      split at hk
      · rename_i sh key1 k1 k2 n1 hsh
        have hd := sh_int hsh
        rw [hsh] at hk'
        split at hk'
        · rename_i k4 k5 n2 e1
          cases e1
          simp only [decide_eq_true_eq] at hk hk'
          subst hk; subst hk'; subst hd
          simp only [VR] at hv h1
          simp [Instr.sameNow, hv, h1, keyEq]
        · rename_i e1; cases e1
        · cases hk'
      · rename_i sh key1 s1 hsh
        have hd := sh_string hsh
        rw [hsh] at hk'
        split at hk'
        · rename_i e1; cases e1
        · subst hd
          simp only [VR] at hv h1
          simp [Instr.sameNow, hv, h1, keyEq, bytes_beq]
        · cases hk'
      · cases hk
    simp only [mfind]
    cases hq : keyEq key k' with
    | true =>
      rw [if_pos rfl]
      exact ⟨0, e.val, by simp [Instr.findNow, hsame, hq], h2, by simp⟩
    | false =>
      rw [if_neg (by simp)]
      cases hf : mfind key es with
      | none =>
        rw [hf] at ih
        simp only at ih ⊢
        simp [Instr.findNow, hsame, hq, ih]
      | some u =>
        rw [hf] at ih
        simp only at ih ⊢
        obtain ⟨j, cv, i1, i2, i3⟩ := ih
        exact ⟨j + 1, cv, by simp [Instr.findNow, hsame, hq, i1]; omega, i2, by simp; omega⟩

theorem run_checkKey {t : TypeId} {d : TypeDesc} (ht : P.underlying t = some d) {key : AV} {ck : Value} (hk : keyLike (shOf P t d) key = true) (hv : VR Γ key ck) (b : Bool) (n : Nat) :
    (Instr.checkKey b (n + 1) t ck).run P w = .ok () w := by
  unfold keyLike at hk
  split at hk
  · rename_i sh key1 k1 k2 n1 hsh
    have hd := sh_int hsh
    subst hd
    simp only [VR] at hv; subst hv
    simp [Instr.checkKey, run_underlying ht]
  · rename_i sh key1 s1 hsh
    have hd := sh_string hsh
    subst hd
    simp only [VR] at hv; subst hv
    simp [Instr.checkKey, run_underlying ht]
  · cases hk

theorem run_findKey {t : TypeId} {d : TypeDesc} (ht : P.underlying t = some d) {ck : Value} {ents : List MapEntry} {r : Option (Nat × Value)} (h : Instr.findNow d ck ents 0 = some r) :
    (Instr.findKey t ck ents).run P w = .ok r w := by
  simp [Instr.findKey, run_underlying ht, h]

theorem rd_lookup {o : Oper} {t : TypeId} {m k : Operand} {ok : Bool} (ho : o.op = .lookup t m k ok) {v : AV} (he : EnvRel Γ env a) (hr : Rel σ Γ w) (h : rd P env σ (.lookup t m k ok) = some v) : Reads P Γ a w o v := by
  simp only [rd] at h
  split at h
  · rename_i kt et id key hti hm hk
    obtain ⟨i, d, h1, h2, h3⟩ := tiOf_info hti
    simp only [TI.mk.injEq] at h3
    have hd := sh_map h3.2.2.2.2.symm
    subst hd
    have hp := opd_sound he hm
    have hq := opd_sound he hk
    simp only [VR] at hp
    obtain ⟨b, c, hl, hp⟩ := hp
    split at h
    · rename_i tk te es htk hte hσ
      obtain ⟨ik, dk, a1, a2, rfl⟩ := tiOf_info htk
      obtain ⟨ie, de, b1, b2, rfl⟩ := tiOf_info hte
      obtain ⟨l, hl', ho'⟩ := hr.obj _ _ hσ
      rw [hl] at hl'; cases hl'
      obtain ⟨_, _, ents, clock, hh, hmr⟩ := ho'
      split at h
      · rename_i hc
        simp only at hc
        have hchk := run_checkKey (P := P) (w := w) a2 hc.1 hq ents.isEmpty 9999
        have hf := findNow_sound (P := P) (t := kt) hc.1 hq es ents.toList 0 hmr hc.2
        have hget : (getObj b).run P w = .ok (.map ents clock) w := by simp [getObj, Sem.run, hh]
        split at h
        · rename_i u x hmf
          rw [hmf] at hf
          simp only [Nat.zero_add] at hf
          obtain ⟨j, cv, f1, f2, _⟩ := hf
          have hfk := run_findKey (P := P) (w := w) a2 f1
          cases ok
          · simp at h; subst h
            exact ⟨cv, by simp [execOp, ho, hp, Instr.lookup, run_underlying h2, hget, hchk, hfk], f2⟩
          · simp at h; subst h
            refine ⟨.tuple #[cv, .bool true], by simp [execOp, ho, hp, Instr.lookup, run_underlying h2, hget, hchk, hfk], ?_⟩
            simp only [VR]; exact ⟨[cv, .bool true], rfl, VRL.cons f2 (VRL.cons (by simp only [VR]) VRL.nil)⟩
        · rename_i z hmf hz
          rw [hmf] at hf
          simp only at hf
          have hfk := run_findKey (P := P) (w := w) a2 hf
          cases hzv : ie.zero with
          | none => rw [hzv] at hz; simp at hz
          | some zv =>
            rw [hzv] at hz
            simp only [Option.bind_some] at hz
            have hzr : (zeroValue et).run P w = .ok zv w := by simp [zeroValue, typeInfo, b1, hzv]
            have f2 := ofVal_sound (Γ := Γ) hz
            cases ok
            · simp at h; subst h
              exact ⟨zv, by simp [execOp, ho, hp, Instr.lookup, run_underlying h2, hget, hchk, hfk, hzr], f2⟩
            · simp at h; subst h
              refine ⟨.tuple #[zv, .bool false], by simp [execOp, ho, hp, Instr.lookup, run_underlying h2, hget, hchk, hfk, hzr], ?_⟩
              simp only [VR]; exact ⟨[zv, .bool false], rfl, VRL.cons f2 (VRL.cons (by simp only [VR]) VRL.nil)⟩
        · cases h
      · cases h
    · cases h
  · cases h

theorem MapRel.length : ∀ {es : List (AV × AV)} {ents : List MapEntry}, MapRel Γ es ents → ents.length = es.length
  | [], _, h => by simp only [MapRel] at h; subst h; rfl
  | _ :: _, _, ⟨_, _, rfl, _, _, h⟩ => by simp [MapRel.length h]

theorem array_eq_of_toList {α : Type} {x : Array α} {l : List α} (h : x.toList = l) : x = l.toArray := by rw [← h]

theorem rd_len {o : Oper} {args : Array Operand} {argTypes : Array TypeId} (ho : o.op = .call { callee := .builtin .len, args, argTypes }) {v : AV} (he : EnvRel Γ env a) (hr : Rel σ Γ w)
    (h : rd P env σ (.call { callee := .builtin .len, args, argTypes }) = some v) : Reads P Γ a w o v := by
  simp only [rd] at h
  split at h
  · rename_i x t hargs htys
    have e1 := array_eq_of_toList hargs
    have e2 := array_eq_of_toList htys
    subst e1; subst e2
    split at h
    · rename_i e s es tk hti hx
      obtain ⟨i, d, h1, h2, h3⟩ := tiOf_info hti
      simp only [TI.mk.injEq] at h3
      have hd := sh_slice h3.2.2.2.2.symm
      subst hd
      have hp := opd_sound he hx
      simp only [VR] at hp
      obtain ⟨ad, cap, xs, hp, _⟩ := hp
      cases h
      refine ⟨.int .i64 es.length, ?_, by simp only [VR]⟩
      simp [execOp, ho, hp, resolve, invoke, builtin, Builtin.len_, run_underlying h2, goInt]
    · rename_i e id off n cap hti hx
      obtain ⟨i, d, h1, h2, h3⟩ := tiOf_info hti
      simp only [TI.mk.injEq] at h3
      have hd := sh_slice h3.2.2.2.2.symm
      subst hd
      have hp := opd_sound he hx
      simp only [VR] at hp
      obtain ⟨b, c, _, _, hp⟩ := hp
      cases h
      refine ⟨.int .i64 n, ?_, by simp only [VR]⟩
      simp [execOp, ho, hp, resolve, invoke, builtin, Builtin.len_, run_underlying h2, goInt]
    · rename_i s hti hx
      obtain ⟨i, d, h1, h2, h3⟩ := tiOf_info hti
      simp only [TI.mk.injEq] at h3
      have hd := sh_string h3.2.2.2.2.symm
      subst hd
      have hp := opd_sound he hx
      simp only [VR] at hp
      cases h
      refine ⟨.int .i64 s.size, ?_, by simp only [VR]⟩
      simp [execOp, ho, hp, resolve, invoke, builtin, Builtin.len_, run_underlying h2, goInt]
    · rename_i k e id hti hx
      obtain ⟨i, d, h1, h2, h3⟩ := tiOf_info hti
      simp only [TI.mk.injEq] at h3
      have hd := sh_map h3.2.2.2.2.symm
      subst hd
      have hp := opd_sound he hx
      simp only [VR] at hp
      obtain ⟨b, c, hl, hp⟩ := hp
      split at h
      · rename_i es hσ
        obtain ⟨l, hl', ho'⟩ := hr.obj _ _ hσ
        rw [hl] at hl'; cases hl'
        obtain ⟨_, _, ents, clock, hh, hmr⟩ := ho'
        have hget : (getObj b).run P w = .ok (.map ents clock) w := by simp [getObj, Sem.run, hh]
        have hlen := hmr.length
        simp only [Array.length_toList] at hlen
        cases h
        refine ⟨.int .i64 es.length, ?_, by simp only [VR]⟩
        simp [execOp, ho, hp, resolve, invoke, builtin, Builtin.len_, run_underlying h2, goInt, hget, hlen]
      · cases h
    · cases h
  · cases h

theorem rd_min {o : Oper} {args : Array Operand} {argTypes : Array TypeId} (ho : o.op = .call { callee := .builtin .min, args, argTypes }) {v : AV} (he : EnvRel Γ env a)
    (h : rd P env σ (.call { callee := .builtin .min, args, argTypes }) = some v) : Reads P Γ a w o v := by
  simp only [rd] at h
  split at h
  · rename_i x y hargs
    have e1 := array_eq_of_toList hargs
    subst e1
    split at h
    · rename_i k m k' n hx hy
      have hp := opd_sound he hx
      have hq := opd_sound he hy
      simp only [VR] at hp hq
      cases h
      refine ⟨.int k (if n < m then n else m), ?_, by simp only [VR]⟩
      simp [execOp, ho, hp, hq, resolve, invoke, builtin, Builtin.min_, Builtin.min2]
    · cases h
  · cases h

theorem rd_max {o : Oper} {args : Array Operand} {argTypes : Array TypeId} (ho : o.op = .call { callee := .builtin .max, args, argTypes }) {v : AV} (he : EnvRel Γ env a)
    (h : rd P env σ (.call { callee := .builtin .max, args, argTypes }) = some v) : Reads P Γ a w o v := by
  simp only [rd] at h
  split at h
  · rename_i x y hargs
    have e1 := array_eq_of_toList hargs
    subst e1
    split at h
    · rename_i k m k' n hx hy
      have hp := opd_sound he hx
      have hq := opd_sound he hy
      simp only [VR] at hp hq
      cases h
      refine ⟨.int k (if n > m then n else m), ?_, by simp only [VR]⟩
      simp [execOp, ho, hp, hq, resolve, invoke, builtin, Builtin.max_, Builtin.max2]
    · cases h
  · cases h

/-- All reading operations. -/
theorem rd_sound {o : Oper} {v : AV} (he : EnvRel Γ env a) (hr : Rel σ Γ w) (h : rd P env σ o.op = some v) : Reads P Γ a w o v := by
  cases ho : o.op <;> rw [ho] at h
  case move x => exact rd_move (.inl ho) he (by simpa only [rd] using h)
  case assign x => exact rd_move (.inr ho) he (by simpa only [rd] using h)
  case pick => exact rd_pick ho he h
  case nilCheck => exact rd_nilCheck ho he h
  case binOp => exact rd_binOp ho he h
  case unOp => exact rd_unOp ho he h
  case convert => exact rd_convert ho he hr h
  case field => exact rd_field ho he h
  case fieldAddr => exact rd_fieldAddr ho he h
  case indexAddr => exact rd_indexAddr ho he h
  case index => exact rd_index ho he h
  case slice => exact rd_slice ho he h
  case load => exact rd_load ho he hr h
  case extract => exact rd_extract ho he h
  case build => exact rd_build ho he h
  case lookup => exact rd_lookup ho he hr h
  case makeFunc fn first captured => cases fn <;> first | exact rd_makeFunc ho he h | (simp only [rd] at h; cases h)
  case call c =>
    obtain ⟨callee, args, argTypes⟩ := c
    cases callee with
    | builtin b => cases b <;> first | exact rd_len ho he hr h | exact rd_min ho he h | exact rd_max ho he h | (simp only [rd] at h; cases h)
    | value f => simp only [rd] at h; cases h
    | invoke r m => simp only [rd] at h; cases h
  all_goals (simp only [rd] at h; cases h)

end Go.Am
