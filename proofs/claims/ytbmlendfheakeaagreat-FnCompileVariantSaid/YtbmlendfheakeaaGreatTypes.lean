/-
  The program's structs, and what they are to the abstract machine. Printed by wip/py/mktypes.py.
-/
import Derived.Test.YtbmlendfheakeaaGreatFacts
import Derived.Test.YtbmlendfheakeaaGreatAmN
namespace Go.Am

structure S8 where
  x : Int
  y : Int
  signed : Bool
  code : Int

structure S14 where
  msg : ByteArray
  addr : Int

structure STerm where
  kind : Int
  n : Int
  name : ByteArray
  kids : (List STerm)

mutual
def eTerm : STerm → AV
  | ⟨x0, x1, x2, x3⟩ => .agg [I x0, I x1, .str x2, .imm 4 (eTerms x3) .no]
def eTerms : List STerm → List AV
  | [] => []
  | t :: ts => eTerm t :: eTerms ts
end

theorem eTerms_eq : ∀ l : List STerm, eTerms l = l.map eTerm
  | [] => rfl
  | t :: ts => by simp only [eTerms, List.map_cons, eTerms_eq ts]

theorem eTerm_eq (t : STerm) : eTerm t = .agg [(I t.kind), (I t.n), (.str t.name), .imm 4 (List.map eTerm t.kids) .no] := by
  obtain ⟨x0, x1, x2, x3⟩ := t
  simp only [eTerm, eTerms_eq]

abbrev LTerm (l : List STerm) (tk : Tk) : AV := .imm 4 (List.map eTerm l) tk
abbrev cTerm (x : STerm) : List AV := [(I x.kind), (I x.n), (.str x.name), (LTerm x.kids .no)]

structure SClause where
  head : STerm
  body : (List STerm)

def eClause (x : SClause) : AV := .agg [(I x.head.kind), (I x.head.n), (.str x.head.name), (LTerm x.head.kids .no), (LTerm x.body .no)]

abbrev LClause (l : List SClause) (tk : Tk) : AV := .imm 5 (List.map eClause l) tk
abbrev cClause (x : SClause) : List AV := [(I x.head.kind), (I x.head.n), (.str x.head.name), (LTerm x.head.kids .no), (LTerm x.body .no)]

structure SInstr where
  op : Int
  a : Int
  b : Int
  name : ByteArray

def eInstr (x : SInstr) : AV := .agg [(I x.op), (I x.a), (I x.b), (.str x.name)]

abbrev LInstr (l : List SInstr) (tk : Tk) : AV := .imm 4 (List.map eInstr l) tk
abbrev cInstr (x : SInstr) : List AV := [(I x.op), (I x.a), (I x.b), (.str x.name)]

structure Sl8Reader where
  slots : (List STerm)
  out : (List STerm)
  vars : Int
  at' : Int
  ok : Bool

structure Sl18Rd where
  b : (List Int)
  p : Int

structure Sl8Maker where
  slots : (List Int)
  next : Int
  code : (List SInstr)

abbrev cl8Maker (x : Sl8Maker) : List AV := [(LI x.slots .no), (I x.next), (LInstr x.code .no)]

structure Sleft where
  t : STerm
  slot : Int

def eleft (x : Sleft) : AV := .agg [(I x.t.kind), (I x.t.n), (.str x.t.name), (LTerm x.t.kids .no), (I x.slot)]

abbrev Lleft (l : List Sleft) (tk : Tk) : AV := .imm 5 (List.map eleft l) tk
abbrev cleft (x : Sleft) : List AV := [(I x.t.kind), (I x.t.n), (.str x.t.name), (LTerm x.t.kids .no), (I x.slot)]

section
open Go.Proofs
variable {ops : Array Oper} {rest : List Oper} {K : Env → St → Prop} {env : Env} {σ : St} {d : Option Tmp} {ty : TypeId} {pos : String} {af : Array Edge}
theorem alTerm (k : ∀ id σ', σ id = none → σ' id = some (.cells [(I 0), (I 0), (.str (⟨#[]⟩ : ByteArray)), (LTerm ([] : List STerm) .full)]) → Fr σ σ' [] → arun Tryz.prog ops rest K (env.put d (.ptr id 0)) σ') : arun Tryz.prog ops ({ dst := d, op := .alloc 25, type := ty, pos := pos, after := af, guard := none } :: rest) K env σ :=
  R.allocLe ti25 rfl (LeL.cons (Le.refl _) (LeL.cons (Le.refl _) (LeL.cons (Le.refl _) (LeL.cons (Le.empty' _ _ _ rfl) LeL.nil)))) k
theorem alClause (k : ∀ id σ', σ id = none → σ' id = some (.cells [(I 0), (I 0), (.str (⟨#[]⟩ : ByteArray)), (LTerm ([] : List STerm) .full), (LTerm ([] : List STerm) .full)]) → Fr σ σ' [] → arun Tryz.prog ops rest K (env.put d (.ptr id 0)) σ') : arun Tryz.prog ops ({ dst := d, op := .alloc 27, type := ty, pos := pos, after := af, guard := none } :: rest) K env σ :=
  R.allocLe ti27 rfl (LeL.cons (Le.refl _) (LeL.cons (Le.refl _) (LeL.cons (Le.refl _) (LeL.cons (Le.empty' _ _ _ rfl) (LeL.cons (Le.empty' _ _ _ rfl) LeL.nil))))) k
theorem all8Maker (k : ∀ id σ', σ id = none → σ' id = some (.cells [(LI ([] : List Int) .full), (I 0), (LInstr ([] : List SInstr) .full)]) → Fr σ σ' [] → arun Tryz.prog ops rest K (env.put d (.ptr id 0)) σ') : arun Tryz.prog ops ({ dst := d, op := .alloc 103, type := ty, pos := pos, after := af, guard := none } :: rest) K env σ :=
  R.allocLe ti103 rfl (LeL.cons (Le.empty' _ _ _ rfl) (LeL.cons (Le.refl _) (LeL.cons (Le.empty' _ _ _ rfl) LeL.nil))) k
theorem alleft (k : ∀ id σ', σ id = none → σ' id = some (.cells [(I 0), (I 0), (.str (⟨#[]⟩ : ByteArray)), (LTerm ([] : List STerm) .full), (I 0)]) → Fr σ σ' [] → arun Tryz.prog ops rest K (env.put d (.ptr id 0)) σ') : arun Tryz.prog ops ({ dst := d, op := .alloc 139, type := ty, pos := pos, after := af, guard := none } :: rest) K env σ :=
  R.allocLe ti139 rfl (LeL.cons (Le.refl _) (LeL.cons (Le.refl _) (LeL.cons (Le.refl _) (LeL.cons (Le.empty' _ _ _ rfl) (LeL.cons (Le.refl _) LeL.nil))))) k
end

end Go.Am
