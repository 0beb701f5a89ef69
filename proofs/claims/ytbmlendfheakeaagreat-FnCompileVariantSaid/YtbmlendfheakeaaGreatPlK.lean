/-
  Plain Lean: the code of a clause, as a function.
-/
import Derived.Test.YtbmlendfheakeaaGreatPlC
namespace Go.Am
open Go.Proofs
set_option linter.unusedVariables false

abbrev noName : ByteArray := ⟨#[]⟩

/-- What is known while code is made. -/
structure CS where
  sl : Int → Option Int
  next : Int
  code : List SInstr

def CS.emit (s : CS) (x : SInstr) : CS := ⟨s.sl, s.next, s.code ++ [x]⟩
def CS.bindv (s : CS) (n v : Int) : CS := ⟨fun k => if k = n then some v else s.sl k, s.next, s.code⟩
def CS.inc (s : CS) : CS := ⟨s.sl, s.next + 1, s.code⟩

/-- An argument that is no structure. -/
def arg1 (s : CS) (t : STerm) : CS :=
  if t.kind = 2 then s.emit ⟨6, t.n, 0, noName⟩
  else match s.sl t.n with
    | some v => s.emit ⟨5, v, 0, noName⟩
    | none => ((s.bindv t.n s.next).inc).emit ⟨4, s.next, 0, noName⟩
/-- An argument within a head; structures wait in a row. -/
def argH (p : CS × List Sleft) (t : STerm) : CS × List Sleft :=
  if t.kind = 3 then (p.1.inc.emit ⟨4, p.1.next, 0, noName⟩, p.2 ++ [⟨t, p.1.next⟩]) else (arg1 p.1 t, p.2)
def argHs : List STerm → CS × List Sleft → CS × List Sleft
  | [], p => p
  | t :: ts, p => argHs ts (argH p t)
theorem argHs_snoc : ∀ (l : List STerm) (x : STerm) (p : CS × List Sleft), argHs (l ++ [x]) p = argH (argHs l p) x
  | [], _, _ => rfl
  | t :: ts, x, p => argHs_snoc ts x (argH p t)
/-- A head's own arguments. -/
def headA (p : CS × List Sleft) (i : Int) (t : STerm) : CS × List Sleft :=
  if t.kind = 2 then (p.1.emit ⟨2, t.n, i, noName⟩, p.2)
  else if t.kind = 1 then (match p.1.sl t.n with
    | some v => (p.1.emit ⟨1, v, i, noName⟩, p.2)
    | none => (p.1.bindv t.n i, p.2))
  else (p.1, p.2 ++ [⟨t, i⟩])
def headAs : List STerm → Nat → CS × List Sleft → CS × List Sleft
  | [], _, p => p
  | t :: ts, i, p => headAs ts (i + 1) (headA p (i : Int) t)

def qn : List Sleft → Nat
  | [] => 0
  | x :: q => nodes x.t + qn q
theorem qn_append : ∀ a b : List Sleft, qn (a ++ b) = qn a + qn b
  | [], _ => by simp [qn]
  | x :: a, b => by simp only [List.cons_append, qn, qn_append a b]; omega
theorem nodes_pos (t : STerm) : 1 ≤ nodes t := by rw [nodes_eq]; omega
theorem qn_argH (ks : List STerm) : ∀ p : CS × List Sleft, qn (argHs ks p).2 ≤ qn p.2 + nodesL ks := by
  induction ks with
  | nil => intro p; simp [nodesL, argHs]
  | cons t ts ih =>
    intro p
    simp only [argHs, nodesL]
    have h := ih (argH p t)
    have : qn (argH p t).2 ≤ qn p.2 + nodes t := by
      unfold argH
      split
      · simp only [qn_append, qn]; omega
      · simp only; omega
    omega

/-- The structures of a head, one behind the other. -/
def headQ (q : List Sleft) (s : CS) : CS :=
  match q with
  | [] => s
  | x :: r => headQ (argHs x.t.kids (s.emit ⟨3, (x.t.kids.length : Int), x.slot, x.t.name⟩, r)).2 (argHs x.t.kids (s.emit ⟨3, (x.t.kids.length : Int), x.slot, x.t.name⟩, r)).1
termination_by qn q
decreasing_by
  have := qn_argH x.t.kids (s.emit ⟨3, (x.t.kids.length : Int), x.slot, x.t.name⟩, r)
  simp only [qn]
  rw [nodes_eq]
  simp only at this
  omega

def putK : List STerm → List (Option Int) → CS → CS
  | t :: ts, some v :: vs, s => putK ts vs (s.emit ⟨5, v, 0, noName⟩)
  | t :: ts, none :: vs, s => putK ts vs (arg1 s t)
  | _, _, s => s
mutual
/-- A structure that is built. -/
def bld : STerm → CS → CS × Int
  | ⟨_, _, nm, ks⟩, s => (putK ks (bldK ks s).2 ((bldK ks s).1.inc.emit ⟨7, (ks.length : Int), (bldK ks s).1.next, nm⟩), (bldK ks s).1.next)
def bldK : List STerm → CS → CS × List (Option Int)
  | [], s => (s, [])
  | t :: ts, s => if t.kind = 3 then ((bldK ts (bld t s).1).1, some (bld t s).2 :: (bldK ts (bld t s).1).2) else ((bldK ts s).1, none :: (bldK ts s).2)
end
theorem bld_eq (t : STerm) (s : CS) : bld t s = (putK t.kids (bldK t.kids s).2 ((bldK t.kids s).1.inc.emit ⟨7, (t.kids.length : Int), (bldK t.kids s).1.next, t.name⟩), (bldK t.kids s).1.next) := by
  cases t; simp only [bld]

/-- An argument of a goal. -/
def putA (s : CS) (i : Int) (t : STerm) : CS :=
  if t.kind = 2 then s.emit ⟨10, t.n, i, noName⟩
  else if t.kind = 1 then (match s.sl t.n with
    | some v => s.emit ⟨9, v, i, noName⟩
    | none => ((s.bindv t.n s.next).inc).emit ⟨8, s.next, i, noName⟩)
  else (bld t s).1.emit ⟨9, (bld t s).2, i, noName⟩
def putAs : List STerm → Nat → CS → CS
  | [], _, s => s
  | t :: ts, i, s => putAs ts (i + 1) (putA s (i : Int) t)
def goalC (s : CS) (g : STerm) : CS :=
  if isCutT g then s.emit ⟨13, 0, 0, noName⟩
  else (putAs g.kids 0 s).emit ⟨if isBuiltT g then 12 else 11, (g.kids.length : Int), 0, g.name⟩
def bodyC (l : List STerm) (s : CS) : CS := (l.foldl goalC s).emit ⟨14, 0, 0, noName⟩
def start : CS := ⟨fun _ => none, 4, []⟩
def headC (ks : List STerm) : CS := headQ (headAs ks 0 (start, [])).2 (headAs ks 0 (start, [])).1
def codeC (c : SClause) : List SInstr := (bodyC c.body (headC c.head.kids)).code

/-! ### Sizes -/

def Sb (k : Nat) (s : CS) : Prop := s.code.length ≤ k ∧ 0 ≤ s.next ∧ s.next ≤ k
theorem Sb.le {k k' : Nat} {s : CS} (h : Sb k s) (hk : k ≤ k') : Sb k' s := ⟨by have := h.1; omega, h.2.1, by have := h.2.2; omega⟩
theorem Sb.emit {k : Nat} {s : CS} (h : Sb k s) (x : SInstr) : Sb (k + 1) (s.emit x) := ⟨by simp [CS.emit]; exact h.1, h.2.1, by have := h.2.2; simp only [CS.emit]; omega⟩
theorem Sb.ie {k : Nat} {s : CS} (h : Sb k s) (x : SInstr) : Sb (k + 1) (s.inc.emit x) := ⟨by simp [CS.emit, CS.inc]; exact h.1, by have := h.2.1; simp only [CS.emit, CS.inc]; omega, by have := h.2.2; simp only [CS.emit, CS.inc]; omega⟩
theorem Sb.bind {k : Nat} {s : CS} (h : Sb k s) (n v : Int) : Sb k (s.bindv n v) := h
theorem Sb.arg1 {k : Nat} {s : CS} (h : Sb k s) (t : STerm) : Sb (k + 1) (arg1 s t) := by
  unfold Go.Am.arg1
  split
  · exact h.emit _
  · split
    · exact h.emit _
    · exact (h.bind _ _).ie _

def pq : List Sleft → Nat
  | [] => 0
  | x :: q => 2 * nodes x.t - 1 + pq q
theorem pq_append : ∀ a b : List Sleft, pq (a ++ b) = pq a + pq b
  | [], _ => by simp [pq]
  | x :: a, b => by simp only [List.cons_append, pq, pq_append a b]; omega
theorem Sb.argH {k : Nat} {p : CS × List Sleft} (h : Sb k p.1) (t : STerm) : Sb (k + 1) (argH p t).1 ∧ k + 1 + pq (Go.Am.argH p t).2 ≤ k + pq p.2 + 2 * nodes t := by
  have hn := nodes_pos t
  unfold Go.Am.argH
  split
  · exact ⟨h.ie _, by simp only [pq_append, pq]; omega⟩
  · exact ⟨h.arg1 t, by simp only; omega⟩
theorem Sb.argHs (ks : List STerm) : ∀ {k : Nat} {p : CS × List Sleft}, Sb k p.1 → Sb (k + ks.length) (Go.Am.argHs ks p).1 ∧ k + ks.length + pq (Go.Am.argHs ks p).2 ≤ k + pq p.2 + 2 * nodesL ks := by
  induction ks with
  | nil => intro k p h; exact ⟨h, by simp [nodesL, Go.Am.argHs]⟩
  | cons t ts ih =>
    intro k p h
    obtain ⟨h1, h2⟩ := h.argH t
    obtain ⟨h3, h4⟩ := ih h1
    simp only [Go.Am.argHs, List.length_cons, nodesL]
    exact ⟨h3.le (by omega), by omega⟩
theorem Sb.headA {k : Nat} {p : CS × List Sleft} (h : Sb k p.1) (i : Int) (t : STerm) : Sb (k + 1) (headA p i t).1 ∧ pq (Go.Am.headA p i t).2 ≤ pq p.2 + 2 * nodes t := by
  unfold Go.Am.headA
  split
  · exact ⟨h.emit _, by simp only; omega⟩
  · split
    · split
      · exact ⟨h.emit _, by simp only; omega⟩
      · exact ⟨(h.bind _ _).le (by omega), by simp only; omega⟩
    · exact ⟨h.le (by omega), by simp only [pq_append, pq]; omega⟩
theorem Sb.headAs (ks : List STerm) : ∀ {k : Nat} {p : CS × List Sleft} (i : Nat), Sb k p.1 → Sb (k + ks.length) (headAs ks i p).1 ∧ pq (Go.Am.headAs ks i p).2 ≤ pq p.2 + 2 * nodesL ks := by
  induction ks with
  | nil => intro k p i h; exact ⟨h, by simp [nodesL, Go.Am.headAs]⟩
  | cons t ts ih =>
    intro k p i h
    obtain ⟨h1, h2⟩ := h.headA (i : Int) t
    obtain ⟨h3, h4⟩ := ih (i + 1) h1
    simp only [Go.Am.headAs, List.length_cons, nodesL]
    exact ⟨h3.le (by omega), by omega⟩
theorem Sb.headQ : ∀ (q : List Sleft) {k : Nat} {s : CS}, Sb k s → Sb (k + pq q) (headQ q s) := by
  have : ∀ (m : Nat) (q : List Sleft), qn q = m → ∀ {k : Nat} {s : CS}, Sb k s → Sb (k + pq q) (Go.Am.headQ q s) := by
    intro m
    induction m using Nat.strongRecOn with
    | _ m ih =>
      intro q hm k s h
      cases q with
      | nil => rw [Go.Am.headQ]; exact h
      | cons x r =>
        rw [Go.Am.headQ]
        have hq := qn_argH x.t.kids (s.emit ⟨3, (x.t.kids.length : Int), x.slot, x.t.name⟩, r)
        obtain ⟨h1, h2⟩ := Sb.argHs x.t.kids (p := (s.emit ⟨3, (x.t.kids.length : Int), x.slot, x.t.name⟩, r)) (h.emit _)
        simp only at hq h2
        simp only [qn] at hm
        have hn := nodes_eq x.t
        refine (ih _ (by omega) _ rfl h1).le ?_
        simp only [pq]
        omega
  exact fun q => this _ q rfl

theorem Sb.putK : ∀ (ks : List STerm) (vs : List (Option Int)) {k : Nat} {s : CS}, Sb k s → Sb (k + ks.length) (putK ks vs s)
  | [], vs, k, s, h => by cases vs <;> exact h
  | t :: ts, [], k, s, h => h.le (by simp)
  | t :: ts, some v :: vs, k, s, h => by
    simp only [Go.Am.putK, List.length_cons]
    exact (Sb.putK ts vs (h.emit _)).le (by omega)
  | t :: ts, none :: vs, k, s, h => by
    simp only [Go.Am.putK, List.length_cons]
    exact (Sb.putK ts vs (h.arg1 t)).le (by omega)
theorem len_nodes : ∀ ks : List STerm, ks.length ≤ nodesL ks
  | [] => by simp [nodesL]
  | t :: ts => by have := len_nodes ts; have := nodes_pos t; simp only [List.length_cons, nodesL]; omega
mutual
theorem Sb.bld : ∀ (t : STerm) {k : Nat} {s : CS}, Sb k s → Sb (k + 2 * nodes t - 1) (bld t s).1
  | ⟨a, b, c, ks⟩, k, s, h => by
    simp only [Go.Am.bld, nodes]
    have h1 := Sb.bldK ks h
    have := len_nodes ks
    exact (Sb.putK ks _ (h1.ie _)).le (by omega)
theorem Sb.bldK : ∀ (ks : List STerm) {k : Nat} {s : CS}, Sb k s → Sb (k + 2 * nodesL ks - ks.length) (bldK ks s).1
  | [], k, s, h => by simp only [Go.Am.bldK]; exact h.le (by simp [nodesL])
  | t :: ts, k, s, h => by
    have := len_nodes ts
    have := nodes_pos t
    simp only [Go.Am.bldK, nodesL, List.length_cons]
    split
    · exact (Sb.bldK ts (Sb.bld t h)).le (by omega)
    · exact (Sb.bldK ts h).le (by omega)
end
theorem Sb.putA {k : Nat} {s : CS} (h : Sb k s) (i : Int) (t : STerm) : Sb (k + 2 * nodes t) (putA s i t) := by
  have := nodes_pos t
  unfold Go.Am.putA
  split
  · exact (h.emit _).le (by omega)
  · split
    · split
      · exact (h.emit _).le (by omega)
      · exact ((h.bind _ _).ie _).le (by omega)
    · exact ((Sb.bld t h).emit _).le (by omega)
theorem Sb.putAs (ks : List STerm) : ∀ {k : Nat} {s : CS} (i : Nat), Sb k s → Sb (k + 2 * nodesL ks) (putAs ks i s) := by
  induction ks with
  | nil => intro k s i h; exact h
  | cons t ts ih =>
    intro k s i h
    simp only [Go.Am.putAs, nodesL]
    exact (ih (i + 1) (h.putA (i : Int) t)).le (by omega)
theorem Sb.goalC {k : Nat} {s : CS} (h : Sb k s) (g : STerm) : Sb (k + 2 * nodes g) (goalC s g) := by
  have := nodes_eq g
  unfold Go.Am.goalC
  split
  · exact (h.emit _).le (by omega)
  · exact ((Sb.putAs g.kids 0 h).emit _).le (by omega)
theorem Sb.goalsC (l : List STerm) : ∀ {k : Nat} {s : CS}, Sb k s → Sb (k + 2 * nodesL l) (l.foldl Go.Am.goalC s) := by
  induction l with
  | nil => intro k s h; exact h
  | cons t ts ih =>
    intro k s h
    simp only [List.foldl_cons, nodesL]
    exact (ih (h.goalC t)).le (by omega)

/-- Terms whose every node is of a known kind, its variables in the known range. -/
theorem shape_kids {t : STerm} {d : Nat} (h : shape t d = true) : ∀ x ∈ t.kids, shape x (d - 1) = true := by
  rw [shape_eq] at h
  simp only [Bool.and_eq_true] at h
  exact (shapes_iff _ _).1 h.2
theorem shape_node {t : STerm} {d : Nat} (h : shape t d = true) : nodeOk t = true := by
  rw [shape_eq] at h
  simp only [Bool.and_eq_true] at h
  exact h.1.2
theorem node_kind {t : STerm} (h : nodeOk t = true) : t.kind = 1 ∨ t.kind = 2 ∨ t.kind = 3 := by
  unfold nodeOk at h
  split at h
  · exact .inl ‹_›
  · split at h
    · exact .inr (.inl ‹_›)
    · split at h
      · exact .inr (.inr ‹_›)
      · cases h
theorem node_var {t : STerm} (h : nodeOk t = true) (hk : t.kind = 1) : 0 ≤ t.n ∧ t.n ≤ 25 ∧ t.name = noName ∧ t.kids = [] := by
  unfold nodeOk at h
  rw [if_pos hk] at h
  simp only [Bool.and_eq_true, decide_eq_true_eq, beq_iff_eq] at h
  exact ⟨h.1.1.1, h.1.1.2, h.1.2, List.length_eq_zero_iff.1 (by omega)⟩
theorem node_int {t : STerm} (h : nodeOk t = true) (hk : t.kind = 2) : t.kids = [] ∧ t.name = noName := by
  unfold nodeOk at h
  rw [if_neg (by omega), if_pos hk] at h
  simp only [Bool.and_eq_true, decide_eq_true_eq, beq_iff_eq] at h
  exact ⟨List.length_eq_zero_iff.1 (by omega), h.1.2⟩
theorem node_struct {t : STerm} (h : nodeOk t = true) (hk : t.kind = 3) : t.n = 0 ∧ nameOk t.name = true ∧ t.kids.length ≤ 4 := by
  unfold nodeOk at h
  rw [if_neg (by omega), if_neg (by omega), if_pos hk] at h
  simp only [Bool.and_eq_true, decide_eq_true_eq, beq_iff_eq] at h
  exact ⟨h.1.1, h.1.2, by omega⟩

end Go.Am
