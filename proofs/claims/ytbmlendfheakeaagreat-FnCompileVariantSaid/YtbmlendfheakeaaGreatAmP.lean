/-
  From the abstract machine to a law's row: what came in, and that nothing that was there is changed.
-/
import Derived.Test.YtbmlendfheakeaaGreatAmN
import Derived.Below
namespace Go.Am
open Go.RowKit

variable {P : Program}

/-- Cells that were there at the start, and that nobody writes. -/
noncomputable def gh (w : World) (R : Nat → Nat → Prop) : Gh := ⟨fun b i => open Classical in if R b i then w.cell? ⟨b, i, none⟩ else none, fun _ => none⟩

theorem rel_gh {w : World} {R : Nat → Nat → Prop} (hR : ∀ b i x, R b i → w.cell? ⟨b, i, none⟩ = some x → x.oneCell' = true) : Rel St.nil (gh w R) w where
  im := fun b i x hx => by
    have hx' : (open Classical in if R b i then w.cell? ⟨b, i, none⟩ else none) = some x := hx
    split at hx'
    · rename_i h; exact ⟨hx', hR b i x h hx'⟩
    · cases hx'
  obj := fun id o h => by cases h
  inj := fun i j li lj hi => absurd rfl hi
  low := fun id l h => by cases h
  few := ⟨0, fun _ _ => rfl⟩

theorem AC.run {f : FuncId} {args : List AV} {K : AV → St → Prop} (h : AC P f args St.nil K) {w : World} {R : Nat → Nat → Prop} (hR : ∀ b i x, R b i → w.cell? ⟨b, i, none⟩ = some x → x.oneCell' = true) {cargs : List Value} (hv : VRL (gh w R) args cargs) :
    Calls P f cargs.toArray w fun e w' => ∃ cv v σ' Γ', e = .returned cv ∧ VR Γ' v cv ∧ K v σ' ∧ Below w.heap.size w w' := by
  refine (h.2 (gh w R) w cargs hv (rel_gh hR)).mono fun e w' ⟨cv, v, σ', Γ', he, hs, hvr, hK⟩ => ⟨cv, v, σ', Γ', he, hvr, hK, ⟨hs.os, hs.tape, hs.output, hs.size, fun k hk => hs.pres k hk ?_⟩⟩
  rintro ⟨id, l, h1, _, _⟩
  exact h1 rfl

/-- What a slice of whole numbers holds that came in. -/
def RowIn (k : IntKind) (w : World) (a : Option Addr) (len cap : Nat) (zs : List Int) : Prop :=
  (a = none ∧ len = 0 ∧ cap = 0 ∧ zs = []) ∨ ∃ x, a = some x ∧ x.spot = none ∧ len ≤ cap ∧ zs.length = cap ∧ ∀ i, i < zs.length → w.cell? (x.add i) = some (.int k (zs.getD i 0))

/-- Its cells. -/
def rowCells (a : Option Addr) (cap : Nat) (b i : Nat) : Prop := ∃ x, a = some x ∧ b = x.block ∧ x.off ≤ i ∧ i < x.off + cap

theorem RowIn.at {k : IntKind} {w : World} {a : Option Addr} {len cap : Nat} {zs : List Int} (h : RowIn k w a len cap zs) {b i : Nat} (hc : rowCells a cap b i) : ∃ n, w.cell? ⟨b, i, none⟩ = some (.int k n) := by
  obtain ⟨x, rfl, rfl, h1, h2⟩ := hc
  rcases h with ⟨h, _⟩ | ⟨y, hy, hs, hl, hz, hcell⟩
  · cases h
  · cases hy
    have := hcell (i - x.off) (by omega)
    refine ⟨zs.getD (i - x.off) 0, ?_⟩
    rw [← this]
    congr 1
    unfold Addr.add
    obtain ⟨bx, ox, sx⟩ := x
    simp only at hs h1 h2 ⊢
    subst hs
    split
    · rename_i he; simp only [Addr.mk.injEq, true_and, and_true]; omega
    · simp only [Addr.mk.injEq, true_and, and_true]; omega

theorem RowIn.vr {k : IntKind} {w : World} {a : Option Addr} {len cap : Nat} {zs : List Int} (h : RowIn k w a len cap zs) {R : Nat → Nat → Prop} (hR : ∀ b i, rowCells a cap b i → R b i) :
    VR (gh w R) (.imm 1 ((zs.take len).map (AV.int k)) .no) (.slice a len cap) := by
  rcases h with ⟨rfl, rfl, rfl, rfl⟩ | ⟨x, rfl, hs, hl, hz, hcell⟩
  · simp only [List.take_nil, List.map_nil, VR]
    exact ⟨none, 0, [], rfl, Nat.le_refl _, fun _ => ⟨trivial, rfl⟩, by simp only [VRE], rfl, trivial⟩
  · obtain ⟨b, o, s⟩ := x
    simp only at hs
    subst hs
    have hlen : (zs.take len).length = len := by simp; omega
    have hvre : ∀ l : List Int, VRE (gh w R) 1 (l.map (AV.int k)) (l.map (Value.int k)) := by
      intro l
      induction l with
      | nil => simp only [List.map_nil, VRE]
      | cons z l ih => simp only [List.map_cons, VRE]; exact ⟨.int k z, _, rfl, rfl, by simp only [VR], ih⟩
    simp only [VR, List.length_map, hlen]
    refine ⟨some (b, o), cap, (zs.take len).map (Value.int k), rfl, hl, by simp, hvre _, fun i y hi => ?_, trivial⟩
    simp only [List.getElem?_map, Option.map_eq_some_iff] at hi
    obtain ⟨n, hn, rfl⟩ := hi
    have hlt := (List.getElem?_eq_some_iff.1 hn).1
    rw [hlen] at hlt
    rw [List.getElem?_take, if_pos hlt] at hn
    have hc := hcell i (by omega)
    have hadd : (⟨b, o, none⟩ : Addr).add i = ⟨b, o + i, none⟩ := add_none b o i
    rw [hadd] at hc
    show (open Classical in if R b (o + i) then w.cell? ⟨b, o + i, none⟩ else none) = _
    rw [if_pos (hR _ _ ⟨_, rfl, rfl, by simp, by simp; omega⟩), hc]
    simp only [List.getD_eq_getElem?_getD, hn, Option.getD_some]

/-- A law of one slice of bytes. -/
theorem law1 {f : FuncId} {a : Option Addr} {len cap : Nat} {zs : List Int} {w : World} (h : RowIn .u8 w a len cap zs) {K : AV → St → Prop} (hA : AC P f [.imm 1 ((zs.take len).map (AV.int .u8)) .no] St.nil K) (hK : ∀ v s, K v s → v = .bool true) :
    Calls P f #[.slice a len cap] w fun e w' => e = .returned (.bool true) ∧ Below w.heap.size w w' := by
  refine (hA.run (w := w) (R := rowCells a cap) (cargs := [.slice a len cap]) (fun b i x hc hx => ?_) (VRL.cons (h.vr fun _ _ h => h) VRL.nil)).mono fun e w' ⟨cv, v, σ', Γ', he, hv, hk, hb⟩ => ?_
  · obtain ⟨n, hn⟩ := h.at hc
    rw [hn] at hx; cases hx; rfl
  · rw [hK v σ' hk] at hv
    simp only [VR] at hv
    exact ⟨by rw [he, hv], hb⟩

end Go.Am
