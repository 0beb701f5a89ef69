/-
  AN ABSTRACT MACHINE OVER THE MODEL: its values, its store, and what it does at each operation. It knows no addresses: a slice that nobody writes is a list, a struct by value is the list of its cells;
  what is written (a variable whose address is taken, an array, a map) lies in a store under a name. No program is named here.
-/
import Derived.Below
import Derived.Tactics
import Derived.Laws.Sem
import Derived.Laws.Cells
import Derived.Laws.Entries
namespace Go.Am

/-- What is known of a slice's room: nothing; no room at all; or the right to append, under a name. -/
inductive Tk where
  | no | full | own (id : Nat)
  deriving DecidableEq

inductive AV where
  | bool (b : Bool)
  | int (k : IntKind) (n : Int)
  | str (s : ByteArray)
  | agg (cs : List AV)
  | tup (vs : List AV)
  | imm (sz : Nat) (es : List AV) (tk : Tk)
  | ref (id off len cap : Nat)
  | nilp
  | ptr (id off : Nat)
  | iptr (cs : List AV) (off : Nat)
  | nilf
  | fn (f : FuncId) (caps : List AV)
  | nilm
  | mp (id : Nat)

def AV.cells : AV → List AV
  | .agg cs => cs
  | v => [v]

def AV.sc : AV → Bool
  | .agg _ | .tup _ => false
  | _ => true

inductive AObj where
  | cells (cs : List AV)
  | map (es : List (AV × AV))
  | tok (n sz : Nat)

/-- What is known of memory beside the store: cells that are never written again, and where the named things lie (block, offset, capacity). -/
structure Gh where
  im : Nat → Nat → Option Value
  loc : Nat → Option (Nat × Nat × Nat)

def ImmAt (Γ : Gh) (a : Option (Nat × Nat)) (xs : List Value) : Prop :=
  match a with
  | none => xs = []
  | some (b, off) => ∀ i x, xs[i]? = some x → Γ.im b (off + i) = some x

def TkOk (Γ : Gh) (tk : Tk) (a : Option (Nat × Nat)) (len cap : Nat) : Prop :=
  match tk with
  | .no => True
  | .full => cap = len
  | .own id => ∃ b off, a = some (b, off) ∧ Γ.loc id = some (b, off, cap)

def toAddr (p : Nat × Nat) : Addr := ⟨p.1, p.2, none⟩

mutual
def VR (Γ : Gh) : AV → Value → Prop
  | .bool b, v => v = .bool b
  | .int k n, v => v = .int k n
  | .str s, v => v = .string s
  | .agg cs, v => ∃ xs : List Value, v = .agg xs.toArray ∧ VRL Γ cs xs
  | .tup vs, v => ∃ xs : List Value, v = .tuple xs.toArray ∧ VRL Γ vs xs
  | .imm sz es tk, v => ∃ (a : Option (Nat × Nat)) (cap : Nat) (xs : List Value), v = .slice (a.map toAddr) es.length cap ∧ es.length ≤ cap ∧ (a = none → es = [] ∧ cap = 0) ∧
      VRE Γ sz es xs ∧ ImmAt Γ a xs ∧ TkOk Γ tk a es.length cap
  | .ref id off len cap, v => ∃ b c, Γ.loc id = some (b, 0, c) ∧ len ≤ cap ∧ v = .slice (some ⟨b, off, none⟩) len cap
  | .nilp, v => v = .pointer none
  | .ptr id off, v => ∃ b c, Γ.loc id = some (b, 0, c) ∧ v = .pointer (some ⟨b, off, none⟩)
  | .iptr cs off, v => ∃ (b o : Nat) (xs : List Value), v = .pointer (some ⟨b, o + off, none⟩) ∧ VRL Γ cs xs ∧ ImmAt Γ (some (b, o)) xs
  | .nilf, v => v = .nilFunc
  | .fn f caps, v => ∃ xs : List Value, v = .func (.func f) #[] xs.toArray ∧ VRL Γ caps xs
  | .nilm, v => v = .map none
  | .mp id, v => ∃ b c, Γ.loc id = some (b, 0, c) ∧ v = .map (some b)
def VRL (Γ : Gh) : List AV → List Value → Prop
  | [], xs => xs = []
  | c :: cs, xs => ∃ y ys, xs = y :: ys ∧ VR Γ c y ∧ VRL Γ cs ys
def VRE (Γ : Gh) (sz : Nat) : List AV → List Value → Prop
  | [], xs => xs = []
  | e :: es, xs => ∃ y ys, xs = y.cells.toList ++ ys ∧ y.cells.size = sz ∧ VR Γ e y ∧ VRE Γ sz es ys
end

abbrev St := Nat → Option AObj
def St.set (σ : St) (id : Nat) (o : Option AObj) : St := fun j => if j = id then o else σ j
def St.nil : St := fun _ => none

/-- What is known of the slots. -/
def Env := Nat → Option AV
def Env.get (env : Env) (k : Nat) : Option AV := env k
def Env.set (env : Env) (d : Nat) (v : AV) : Env := fun k => if k = d then some v else env k
def Env.nil : Env := fun _ => none
def Env.put (env : Env) (dst : Option Tmp) (v : AV) : Env :=
  match dst with
  | some d => env.set d v
  | none => env

theorem Env.get_set (env : Env) (d k : Nat) (v : AV) : (env.set d v).get k = if k = d then some v else env.get k := rfl
theorem Env.set_comm (env : Env) {d e : Nat} (u v : AV) (h : d ≠ e) : (env.set d u).set e v = (env.set e v).set d u := by
  funext k; simp only [Env.set]; split <;> split <;> first | rfl | (subst_vars; exact absurd rfl h)

/-- No cell is frozen. -/
def Soft (_arr : Array Value) (fz : Nat × Nat) : Prop := fz = (0, 0)

def Plain (arr : Array Value) : Prop := ∀ (i : Nat) (x : Value), arr[i]? = some x → x.oneCell' = true

def MapRel (Γ : Gh) : List (AV × AV) → List MapEntry → Prop
  | [], ents => ents = []
  | (k, v) :: es, ents => ∃ e r, ents = e :: r ∧ VR Γ k e.key ∧ VR Γ v e.val ∧ MapRel Γ es r

def ObjRel (Γ : Gh) (w : World) (l : Nat × Nat × Nat) : AObj → Prop
  | .cells cs => l.2.1 = 0 ∧ (∀ i, Γ.im l.1 i = none) ∧ ∃ arr T fz, w.heap[l.1]? = some (.cells arr T fz) ∧ Soft arr fz ∧ Plain arr ∧ cs.length ≤ arr.size ∧ VRL Γ cs (arr.toList.take cs.length)
  | .map es => l.2.1 = 0 ∧ (∀ i, Γ.im l.1 i = none) ∧ ∃ ents clock, w.heap[l.1]? = some (.map ents clock) ∧ MapRel Γ es ents.toList
  | .tok n sz => (∀ i, l.2.1 + n * sz ≤ i → Γ.im l.1 i = none) ∧ ∃ arr T fz, w.heap[l.1]? = some (.cells arr T fz) ∧ Soft arr fz ∧ Plain arr ∧ l.2.1 + l.2.2 * sz ≤ arr.size

structure Rel (σ : St) (Γ : Gh) (w : World) : Prop where
  im : ∀ b i x, Γ.im b i = some x → w.cell? ⟨b, i, none⟩ = some x ∧ x.oneCell' = true
  obj : ∀ id o, σ id = some o → ∃ l, Γ.loc id = some l ∧ ObjRel Γ w l o
  inj : ∀ i j li lj, σ i ≠ none → σ j ≠ none → Γ.loc i = some li → Γ.loc j = some lj → li.1 = lj.1 → i = j
  low : ∀ id l, Γ.loc id = some l → l.1 < w.heap.size
  few : ∃ N, ∀ id, N ≤ id → Γ.loc id = none

structure Ext (Γ Γ' : Gh) : Prop where
  im : ∀ b i x, Γ.im b i = some x → Γ'.im b i = some x
  loc : ∀ id l, Γ.loc id = some l → Γ'.loc id = some l

def Owned (Γ : Gh) (σ : St) (b : Nat) : Prop := ∃ id l, σ id ≠ none ∧ Γ.loc id = some l ∧ l.1 = b

structure Step (Γ : Gh) (σ : St) (w : World) (Γ' : Gh) (σ' : St) (w' : World) : Prop where
  ext : Ext Γ Γ'
  rel : Rel σ' Γ' w'
  pres : ∀ b, b < w.heap.size → ¬ Owned Γ σ b → w'.heap[b]? = w.heap[b]?
  imo : ∀ b i, b < w.heap.size → ¬ Owned Γ σ b → Γ'.im b i = Γ.im b i
  own : ∀ b, Owned Γ' σ' b → Owned Γ σ b ∨ w.heap.size ≤ b
  size : w.heap.size ≤ w'.heap.size
  os : w'.os = w.os
  tape : w'.tape = w.tape
  output : w'.output = w.output

def EnvRel (Γ : Gh) (env : Env) (a : Act) : Prop := ∀ k v, env.get k = some v → VR Γ v (a.tmps.getD k undef)

/-- A function with a body of its own. -/
def CanEnter (P : Program) (f : FuncId) : Prop := ∃ fn, P.funcs[f]? = some fn ∧ fn.body.isNone = false ∧ (fn.name == "runtime.NumGoroutine") = false

/-- A call, as the abstract machine sees it: for whatever memory, it returns, and K holds of the result and of the store. -/
def AC (P : Program) (f : FuncId) (args : List AV) (σ : St) (K : AV → St → Prop) : Prop :=
  CanEnter P f ∧ ∀ (Γ : Gh) (w : World) (cargs : List Value), VRL Γ args cargs → Rel σ Γ w →
    Calls P f cargs.toArray w fun e w' => ∃ cv v σ' Γ', e = .returned cv ∧ Step Γ σ w Γ' σ' w' ∧ VR Γ' v cv ∧ K v σ'

theorem AC.mono {P : Program} {f : FuncId} {args : List AV} {σ : St} {K K' : AV → St → Prop} (h : AC P f args σ K) (hk : ∀ v σ', K v σ' → K' v σ') : AC P f args σ K' :=
  ⟨h.1, fun Γ w cargs ha hr => (h.2 Γ w cargs ha hr).mono fun _ _ ⟨cv, v, σ', Γ', he, hs, hv, hK⟩ => ⟨cv, v, σ', Γ', he, hs, hv, hk _ _ hK⟩⟩

end Go.Am
