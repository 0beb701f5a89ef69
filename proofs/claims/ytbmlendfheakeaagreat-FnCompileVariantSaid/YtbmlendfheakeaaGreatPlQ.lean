/-
  Plain Lean: a renumbered clause has the same code.
-/
import Derived.Test.YtbmlendfheakeaaGreatPlR
namespace Go.Am
open Go.Proofs
set_option linter.unusedVariables false

section
variable {V : Int → Prop} {g : Int → Int}

def Gd (V : Int → Prop) (t : STerm) : Prop := vok V t ∧ ∃ d, shape t d = true
theorem Gd.kids {t : STerm} (h : Gd V t) : ∀ x ∈ t.kids, Gd V x := fun x hx => by
  obtain ⟨h1, d, h2⟩ := h
  exact ⟨((vok_iff t).1 h1).2 x hx, _, shape_kids h2 x hx⟩
theorem Gd.node {t : STerm} (h : Gd V t) : nodeOk t = true := by
  obtain ⟨h1, d, h2⟩ := h
  exact shape_node h2
theorem Gd.var {t : STerm} (h : Gd V t) (hk : t.kind = 1) : V t.n := ((vok_iff t).1 h.1).1 hk
theorem mv_kind (t : STerm) : (mapV g t).kind = t.kind := by
  rw [mapV_eq]; split <;> simp_all
theorem mv_n {t : STerm} (h : ¬ t.kind = 1) : (mapV g t).n = t.n := by
  rw [mapV_eq, if_neg h]
theorem mv_v {t : STerm} (h : t.kind = 1) : (mapV g t).n = g t.n := by
  rw [mapV_eq, if_pos h]
theorem mv_name {t : STerm} (h : Gd V t) : (mapV g t).name = t.name := by
  rw [mapV_eq]
  split
  · rename_i e; exact (node_var h.node e).2.2.1.symm
  · rfl
theorem mv_kids {t : STerm} (h : Gd V t) : (mapV g t).kids = t.kids.map (mapV g) := by
  rw [mapV_eq]
  split
  · rename_i e; rw [(node_var h.node e).2.2.2]; rfl
  · rfl

/-- Two states that differ in the numbers of the variables. -/
def Sim (V : Int → Prop) (g : Int → Int) (s s' : CS) : Prop := s'.next = s.next ∧ s'.code = s.code ∧ ∀ k, V k → s'.sl (g k) = s.sl k
theorem Sim.emit {s s' : CS} (h : Sim V g s s') (x : SInstr) : Sim V g (s.emit x) (s'.emit x) := ⟨h.1, by simp only [CS.emit, h.2.1], h.2.2⟩
theorem Sim.inc {s s' : CS} (h : Sim V g s s') : Sim V g s.inc s'.inc := ⟨by simp only [CS.inc, h.1], h.2.1, h.2.2⟩
theorem Sim.bindv {s s' : CS} (h : Sim V g s s') (hinj : ∀ x y, V x → V y → g x = g y → x = y) {n : Int} (hn : V n) (v : Int) : Sim V g (s.bindv n v) (s'.bindv (g n) v) := by
  refine ⟨h.1, h.2.1, fun k hk => ?_⟩
  simp only [CS.bindv]
  by_cases e : k = n
  · subst e; simp
  · rw [if_neg e, if_neg fun h' => e (hinj k n hk hn h')]
    exact h.2.2 k hk

variable (hinj : ∀ x y, V x → V y → g x = g y → x = y)
include hinj

theorem sim_arg1 {s s' : CS} (h : Sim V g s s') {t : STerm} (ht : Gd V t) (h3 : ¬ t.kind = 3) : Sim V g (arg1 s t) (arg1 s' (mapV g t)) := by
  unfold arg1
  rw [mv_kind]
  by_cases e : t.kind = 2
  · rw [if_pos e, if_pos e, mv_n (by omega)]
    exact h.emit _
  · have e1 : t.kind = 1 := by rcases node_kind ht.node with h | h | h <;> first | exact h | exact absurd h e | exact absurd h h3
    rw [if_neg e, if_neg e, mv_v e1, h.2.2 _ (ht.var e1)]
    cases s.sl t.n with
    | some v => exact h.emit _
    | none =>
      simp only
      rw [h.1]
      exact ((h.bindv hinj (ht.var e1) _).inc).emit _

def mq (g : Int → Int) (q : List Sleft) : List Sleft := q.map fun x => ⟨mapV g x.t, x.slot⟩
def Sim2 (V : Int → Prop) (g : Int → Int) (p p' : CS × List Sleft) : Prop := Sim V g p.1 p'.1 ∧ p'.2 = mq g p.2 ∧ ∀ x ∈ p.2, Gd V x.t

theorem sim_argH {p p' : CS × List Sleft} (h : Sim2 V g p p') {t : STerm} (ht : Gd V t) : Sim2 V g (argH p t) (argH p' (mapV g t)) := by
  obtain ⟨h1, h2, h3⟩ := h
  unfold argH
  rw [mv_kind]
  by_cases e : t.kind = 3
  · rw [if_pos e, if_pos e, h1.1]
    refine ⟨h1.inc.emit _, by simp only [h2, mq, List.map_append, List.map_cons, List.map_nil], fun x hx => ?_⟩
    rcases List.mem_append.1 hx with hx | hx
    · exact h3 x hx
    · rw [List.mem_singleton.1 hx]; exact ht
  · rw [if_neg e, if_neg e]
    exact ⟨sim_arg1 hinj h1 ht e, h2, h3⟩
theorem sim_argHs : ∀ (ks : List STerm) {p p' : CS × List Sleft}, Sim2 V g p p' → (∀ t ∈ ks, Gd V t) → Sim2 V g (argHs ks p) (argHs (ks.map (mapV g)) p')
  | [], _, _, h, _ => h
  | t :: ts, _, _, h, hg => sim_argHs ts (sim_argH hinj h (hg t (by simp))) fun x hx => hg x (by simp [hx])
theorem sim_headA {p p' : CS × List Sleft} (h : Sim2 V g p p') {t : STerm} (ht : Gd V t) (i : Int) : Sim2 V g (headA p i t) (headA p' i (mapV g t)) := by
  obtain ⟨h1, h2, h3⟩ := h
  unfold headA
  rw [mv_kind]
  by_cases e : t.kind = 2
  · rw [if_pos e, if_pos e, mv_n (by omega)]
    exact ⟨h1.emit _, h2, h3⟩
  · rw [if_neg e, if_neg e]
    by_cases e1 : t.kind = 1
    · rw [if_pos e1, if_pos e1, mv_v e1, h1.2.2 _ (ht.var e1)]
      cases p.1.sl t.n with
      | some v => exact ⟨h1.emit _, h2, h3⟩
      | none => exact ⟨h1.bindv hinj (ht.var e1) _, h2, h3⟩
    · rw [if_neg e1, if_neg e1]
      refine ⟨h1, by simp only [h2, mq, List.map_append, List.map_cons, List.map_nil], fun x hx => ?_⟩
      rcases List.mem_append.1 hx with hx | hx
      · exact h3 x hx
      · rw [List.mem_singleton.1 hx]; exact ht
theorem sim_headAs : ∀ (ks : List STerm) (i : Nat) {p p' : CS × List Sleft}, Sim2 V g p p' → (∀ t ∈ ks, Gd V t) → Sim2 V g (headAs ks i p) (headAs (ks.map (mapV g)) i p')
  | [], _, _, _, h, _ => h
  | t :: ts, i, _, _, h, hg => sim_headAs ts (i + 1) (sim_headA hinj h (hg t (by simp)) _) fun x hx => hg x (by simp [hx])

theorem sim_headQ : ∀ (n : Nat) (q : List Sleft), qn q = n → ∀ {s s' : CS}, Sim V g s s' → (∀ x ∈ q, Gd V x.t) → Sim V g (headQ q s) (headQ (mq g q) s') := by
  intro n
  induction n using Nat.strongRecOn with
  | _ n ih =>
    intro q hn s s' h hg
    cases q with
    | nil => simp only [mq, List.map_nil]; rw [headQ, headQ]; exact h
    | cons x r =>
      have hx := hg x (by simp)
      simp only [mq, List.map_cons]
      rw [headQ, headQ]
      simp only
      rw [mv_kids hx, mv_name hx, List.length_map]
      have h1 : Sim2 V g (s.emit ⟨3, (x.t.kids.length : Int), x.slot, x.t.name⟩, r) (s'.emit ⟨3, (x.t.kids.length : Int), x.slot, x.t.name⟩, mq g r) := ⟨h.emit _, rfl, fun y hy => hg y (by simp [hy])⟩
      obtain ⟨k1, k2, k3⟩ := sim_argHs hinj x.t.kids h1 hx.kids
      have hq := qn_argH x.t.kids (s.emit ⟨3, (x.t.kids.length : Int), x.slot, x.t.name⟩, r)
      have hne := nodes_eq x.t
      simp only [qn] at hn hq
      have := ih _ (by omega) _ rfl k1 k3
      rw [← k2] at this
      exact this

/-- Which arguments are built. -/
def KO : List STerm → List (Option Int) → Prop
  | t :: ts, o :: os => (t.kind = 3 → o ≠ none) ∧ KO ts os
  | _, _ => True
omit hinj in
theorem KO_bldK : ∀ (ks : List STerm) (s : CS), KO ks (bldK ks s).2
  | [], s => trivial
  | t :: ts, s => by
    simp only [bldK]
    split
    · exact ⟨fun _ h => (by cases h), KO_bldK ts _⟩
    · rename_i e; exact ⟨fun h => absurd h e, KO_bldK ts _⟩
theorem sim_putK : ∀ (ks : List STerm) (vs : List (Option Int)) {s s' : CS}, KO ks vs → Sim V g s s' → (∀ t ∈ ks, Gd V t) → Sim V g (putK ks vs s) (putK (ks.map (mapV g)) vs s')
  | [], vs, _, _, _, h, _ => by cases vs <;> exact h
  | t :: ts, [], _, _, _, h, _ => h
  | t :: ts, some v :: vs, _, _, hk, h, hg => by
    simp only [putK, List.map_cons]
    exact sim_putK ts vs hk.2 (h.emit _) fun x hx => hg x (by simp [hx])
  | t :: ts, none :: vs, _, _, hk, h, hg => by
    simp only [putK, List.map_cons]
    exact sim_putK ts vs hk.2 (sim_arg1 hinj h (hg t (by simp)) fun e => hk.1 e rfl) fun x hx => hg x (by simp [hx])

omit hinj in
theorem sim_bldK_of : ∀ (ks : List STerm), (∀ t ∈ ks, ∀ {s s' : CS}, Sim V g s s' → Gd V t → Sim V g (bld t s).1 (bld (mapV g t) s').1 ∧ (bld (mapV g t) s').2 = (bld t s).2) → ∀ {s s' : CS}, Sim V g s s' → (∀ t ∈ ks, Gd V t) →
    Sim V g (bldK ks s).1 (bldK (ks.map (mapV g)) s').1 ∧ (bldK (ks.map (mapV g)) s').2 = (bldK ks s).2
  | [], _, _, _, h, _ => ⟨h, rfl⟩
  | t :: ts, ih, s, s', h, hg => by
    simp only [List.map_cons, bldK]
    rw [mv_kind]
    by_cases e : t.kind = 3
    · simp only [if_pos e]
      obtain ⟨h1, h2⟩ := ih t (by simp) h (hg t (by simp))
      obtain ⟨h3, h4⟩ := sim_bldK_of ts (fun x hx => ih x (by simp [hx])) h1 fun x hx => hg x (by simp [hx])
      exact ⟨h3, by rw [h2, h4]⟩
    · simp only [if_neg e]
      obtain ⟨h3, h4⟩ := sim_bldK_of ts (fun x hx => ih x (by simp [hx])) h fun x hx => hg x (by simp [hx])
      exact ⟨h3, by rw [h4]⟩
theorem sim_bld : ∀ (t : STerm) {s s' : CS}, Sim V g s s' → Gd V t → Sim V g (bld t s).1 (bld (mapV g t) s').1 ∧ (bld (mapV g t) s').2 = (bld t s).2 := by
  refine STerm.ind fun t ih s s' h hg => ?_
  obtain ⟨h1, h2⟩ := sim_bldK_of t.kids ih h hg.kids
  rw [bld_eq, bld_eq, mv_kids hg, mv_name hg, List.length_map, h2, h1.1]
  exact ⟨sim_putK hinj _ _ (KO_bldK _ _) (h1.inc.emit _) hg.kids, rfl⟩

theorem sim_putA {s s' : CS} (h : Sim V g s s') {t : STerm} (ht : Gd V t) (i : Int) : Sim V g (putA s i t) (putA s' i (mapV g t)) := by
  unfold putA
  rw [mv_kind]
  by_cases e : t.kind = 2
  · rw [if_pos e, if_pos e, mv_n (by omega)]
    exact h.emit _
  · rw [if_neg e, if_neg e]
    by_cases e1 : t.kind = 1
    · rw [if_pos e1, if_pos e1, mv_v e1, h.2.2 _ (ht.var e1)]
      cases s.sl t.n with
      | some v => exact h.emit _
      | none =>
        simp only
        rw [h.1]
        exact ((h.bindv hinj (ht.var e1) _).inc).emit _
    · rw [if_neg e1, if_neg e1]
      obtain ⟨h1, h2⟩ := sim_bld hinj t h ht
      rw [h2]
      exact h1.emit _
theorem sim_putAs : ∀ (ks : List STerm) (i : Nat) {s s' : CS}, Sim V g s s' → (∀ t ∈ ks, Gd V t) → Sim V g (putAs ks i s) (putAs (ks.map (mapV g)) i s')
  | [], _, _, _, h, _ => h
  | t :: ts, i, _, _, h, hg => sim_putAs ts (i + 1) (sim_putA hinj h (hg t (by simp)) _) fun x hx => hg x (by simp [hx])
omit hinj in
theorem mv_cut {t : STerm} (h : Gd V t) : isCutT (mapV g t) = isCutT t := by
  unfold isCutT; rw [mv_kind, mv_name h, mv_kids h, List.length_map]
omit hinj in
theorem mv_built {t : STerm} (h : Gd V t) : isBuiltT (mapV g t) = isBuiltT t := by
  unfold isBuiltT; rw [mv_kind, mv_name h, mv_kids h, List.length_map]
omit hinj in
theorem mv_plain {t : STerm} (h : Gd V t) : isPlainT (mapV g t) = isPlainT t := by
  unfold isPlainT; rw [mv_kind, mv_name h, mv_kids h, List.length_map]
theorem sim_goalC {s s' : CS} (h : Sim V g s s') {t : STerm} (ht : Gd V t) : Sim V g (goalC s t) (goalC s' (mapV g t)) := by
  unfold goalC
  rw [mv_cut ht, mv_built ht, mv_kids ht, mv_name ht, List.length_map]
  split
  · exact h.emit _
  · exact (sim_putAs hinj _ 0 h ht.kids).emit _
theorem sim_goals : ∀ (l : List STerm) {s s' : CS}, Sim V g s s' → (∀ t ∈ l, Gd V t) → Sim V g (l.foldl goalC s) ((l.map (mapV g)).foldl goalC s')
  | [], _, _, h, _ => h
  | t :: ts, _, _, h, hg => sim_goals ts (sim_goalC hinj h (hg t (by simp))) fun x hx => hg x (by simp [hx])

theorem code_same {c : SClause} (hh : Gd V c.head) (hb : ∀ t ∈ c.body, Gd V t) : codeC (mapC g c) = codeC c := by
  have h0 : Sim V g start start := ⟨rfl, rfl, fun _ _ => rfl⟩
  have h1 := sim_headAs hinj c.head.kids 0 (p := (start, [])) (p' := (start, [])) ⟨h0, rfl, fun x hx => by cases hx⟩ hh.kids
  have h2 := sim_headQ hinj _ _ rfl h1.1 h1.2.2
  rw [← h1.2.1] at h2
  have h3 := (sim_goals hinj c.body h2 hb).emit ⟨14, 0, 0, noName⟩
  unfold codeC headC mapC
  simp only
  rw [mv_kids hh]
  exact h3.2.1
omit hinj

variable (hr : ∀ x, V x → 0 ≤ g x ∧ g x ≤ 25)
include hr
theorem mv_node {t : STerm} (h : Gd V t) : nodeOk (mapV g t) = true := by
  have hn := h.node
  by_cases e : t.kind = 1
  · rw [mapV_eq, if_pos e]
    obtain ⟨h1, h2⟩ := hr _ (h.var e)
    simp [nodeOk, h1, h2, noName]
  · unfold nodeOk at hn ⊢
    rw [mv_kind, mv_name h, mv_kids h, mv_n e, List.length_map]
    exact hn
theorem mv_shape : ∀ t : STerm, ∀ d, shape t d = true → vok V t → shape (mapV g t) d = true := by
  refine STerm.ind fun t ih d hd hv => ?_
  have hg : Gd V t := ⟨hv, d, hd⟩
  have hk := shape_kids hd
  rw [shape_eq] at hd ⊢
  simp only [Bool.and_eq_true] at hd ⊢
  refine ⟨⟨hd.1.1, mv_node hr hg⟩, (shapes_iff _ _).2 ?_⟩
  rw [mv_kids hg]
  intro x hx
  obtain ⟨y, hy, rfl⟩ := List.mem_map.1 hx
  exact ih y hy _ (hk y hy) (hg.kids y hy).1
omit hr
theorem mv_nodesL : ∀ l : List STerm, (∀ x ∈ l, nodes (mapV g x) = nodes x) → nodesL (l.map (mapV g)) = nodesL l
  | [], _ => rfl
  | t :: ts, h => by simp only [List.map_cons, nodesL, h t (by simp), mv_nodesL ts fun x hx => h x (by simp [hx])]
theorem mv_nodes : ∀ t : STerm, Gd V t → nodes (mapV g t) = nodes t := by
  refine STerm.ind fun t ih hg => ?_
  rw [nodes_eq, nodes_eq t, mv_kids hg, mv_nodesL _ fun x hx => ih x hx (hg.kids x hx)]
include hr
theorem mv_term {t : STerm} (h : termOk t = true) (hv : vok V t) : termOk (mapV g t) = true := by
  simp only [termOk, Bool.and_eq_true, decide_eq_true_eq] at h ⊢
  exact ⟨mv_shape hr t _ h.1 hv, by rw [mv_nodes t ⟨hv, _, h.1⟩]; exact h.2⟩
theorem mv_clause {c : SClause} (h : clauseOk c = true) (hh : vok V c.head) (hb : ∀ t ∈ c.body, vok V t) : clauseOk (mapC g c) = true := by
  simp only [clauseOk, Bool.and_eq_true, decide_eq_true_eq, List.all_eq_true] at h ⊢
  obtain ⟨⟨⟨h1, h2⟩, h3⟩, h4⟩ := h
  have hg : Gd V c.head := ⟨hh, 30, by simp only [termOk, Bool.and_eq_true] at h1; exact h1.1⟩
  refine ⟨⟨⟨mv_term hr h1 hh, ?_⟩, by simpa [mapC] using h3⟩, fun x hx => ?_⟩
  · simp only [mapC]; rw [mv_plain hg]; exact h2
  · obtain ⟨y, hy, rfl⟩ := List.mem_map.1 hx
    have h5 := h4 y hy
    have hgy : Gd V y := ⟨hb y hy, 30, (goal_parts h5).2⟩
    simp only [goalOk, Bool.and_eq_true] at h5 ⊢
    exact ⟨mv_term hr h5.1 (hb y hy), by rw [mv_cut hgy, mv_plain hgy, mv_built hgy]; exact h5.2⟩
end

end Go.Am
