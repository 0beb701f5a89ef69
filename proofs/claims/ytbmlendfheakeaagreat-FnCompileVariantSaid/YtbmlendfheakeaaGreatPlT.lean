/-
  Plain Lean: what a mirror comes to for all fuel from some number on.
-/
import Derived.Test.YtbmlendfheakeaaGreatTypes
namespace Go.Am
open Go.Proofs

/-- For all fuel from some number on, one value, of which P holds. -/
def TT {α : Type} (m : Nat → Nat → Option α) (P : α → Prop) : Prop := ∃ N a, P a ∧ ∀ f n, N ≤ f → N ≤ n → m f n = some a

section
variable {α β : Type} {P : α → Prop} {Q : β → Prop}

theorem TT.pure {a : α} (h : P a) : TT (fun _ _ => some a) P := ⟨0, a, h, fun _ _ _ _ => rfl⟩
theorem TT.mono {m : Nat → Nat → Option α} {P' : α → Prop} (h : TT m P) (hp : ∀ a, P a → P' a) : TT m P' := by
  obtain ⟨N, a, ha, h⟩ := h
  exact ⟨N, a, hp a ha, h⟩
theorem TT.bind {m : Nat → Nat → Option α} {k : Nat → Nat → α → Option β} (h : TT m P) (hk : ∀ a, P a → TT (fun f n => k f n a) Q) : TT (fun f n => Option.bind (m f n) (k f n)) Q := by
  obtain ⟨N, a, ha, h⟩ := h
  obtain ⟨N', b, hb, h'⟩ := hk a ha
  refine ⟨max N N', b, hb, fun f n hf hn => ?_⟩
  simp only [h f n (by omega) (by omega), Option.bind_some]
  exact h' f n (by omega) (by omega)
theorem TT.guard {b : Bool} {m : Nat → Nat → Option α} (hb : b = true) (h : TT m P) : TT (fun f n => bif b then m f n else none) P := by
  subst hb; exact h
theorem TT.cond {b : Bool} {m m' : Nat → Nat → Option α} (h1 : b = true → TT m P) (h2 : b = false → TT m' P) : TT (fun f n => bif b then m f n else m' f n) P := by
  cases b with
  | true => exact h1 rfl
  | false => exact h2 rfl
theorem TT.ct {b : Bool} {m m' : Nat → Nat → Option α} (hb : b = true) (h : TT m P) : TT (fun f n => bif b then m f n else m' f n) P := by
  subst hb; exact h
theorem TT.cf {b : Bool} {m m' : Nat → Nat → Option α} (hb : b = false) (h : TT m' P) : TT (fun f n => bif b then m f n else m' f n) P := by
  subst hb; exact h
theorem TT.opt {o : Option β} {b : β} {k : Nat → Nat → β → Option α} (ho : o = some b) (h : TT (fun f n => k f n b) P) : TT (fun f n => Option.bind o (k f n)) P := by
  subst ho; exact h
/-- A loop, entered with all fuel. -/
theorem TT.loop {L : Nat → Nat → Option α} (h : TT L P) : TT (fun f _ => L f f) P := by
  obtain ⟨N, a, ha, h⟩ := h
  exact ⟨N, a, ha, fun f _ hf _ => h f f hf hf⟩
/-- A loop's round. -/
theorem TT.succ {m : Nat → Nat → Option α} (h : TT (fun f n => m f (n + 1)) P) : TT m P := by
  obtain ⟨N, a, ha, h⟩ := h
  refine ⟨N + 1, a, ha, fun f n hf hn => ?_⟩
  obtain ⟨k, rfl⟩ : ∃ k, n = k + 1 := ⟨n - 1, by omega⟩
  exact h f k (by omega) (by omega)
/-- A recursive function, entered. -/
theorem TT.fsucc {m : Nat → Option α} (h : TT (fun f _ => m (f + 1)) P) : TT (fun f _ => m f) P := by
  obtain ⟨N, a, ha, h⟩ := h
  refine ⟨N + 1, a, ha, fun f n hf hn => ?_⟩
  obtain ⟨k, rfl⟩ : ∃ k, f = k + 1 := ⟨f - 1, by omega⟩
  exact h k k (by omega) (by omega)
theorem TT.ex {m : Nat → Option α} (h : TT (fun f _ => m f) P) : ∃ f a, m f = some a ∧ P a := by
  obtain ⟨N, a, ha, h⟩ := h
  exact ⟨N, a, h N N (Nat.le_refl _) (Nat.le_refl _), ha⟩
theorem TT.any {m : Nat → Nat → Option α} {a : α} (h : ∀ f n, m f n = some a) (ha : P a) : TT m P := ⟨0, a, ha, fun f n _ _ => h f n⟩
theorem TT.eq {m m' : Nat → Nat → Option α} (e : ∀ f n, m f n = m' f n) (h : TT m' P) : TT m P := by
  have : m = m' := funext fun f => funext fun n => e f n
  rw [this]; exact h
/-- By a number that each round lowers. -/
theorem TT.ind {σ : Type} {L : Nat → Nat → σ → Option α} (μ : σ → Nat) (Inv : σ → Prop) (h : ∀ s, Inv s → (∀ s', Inv s' → μ s' < μ s → TT (fun f n => L f n s') P) → TT (fun f n => L f (n + 1) s) P) : ∀ s, Inv s → TT (fun f n => L f n s) P := by
  have : ∀ k s, μ s = k → Inv s → TT (fun f n => L f n s) P := by
    intro k
    induction k using Nat.strongRecOn with
    | _ k ih =>
      intro s hk hs
      exact TT.succ (h s hs fun s' hs' hlt => ih (μ s') (by omega) s' rfl hs')
  exact fun s hs => this _ s rfl hs
/-- One value. -/
theorem TT.two {m : Nat → Nat → Option α} {a b : α} (h : TT m (· = a)) (h' : TT m (· = b)) : a = b := by
  obtain ⟨N, x, rfl, h⟩ := h
  obtain ⟨N', y, rfl, h'⟩ := h'
  have e1 := h (max N N') (max N N') (by omega) (by omega)
  have e2 := h' (max N N') (max N N') (by omega) (by omega)
  rw [e1] at e2; exact Option.some.inj e2
end

theorem wrap_id {x : Int} (h1 : -9223372036854775808 ≤ x) (h2 : x < 9223372036854775808) : IntKind.wrap .i64 x = x := by
  have e : IntKind.wrap .i64 x = if 9223372036854775808 ≤ x % 18446744073709551616 then x % 18446744073709551616 - 18446744073709551616 else x % 18446744073709551616 := by
    unfold IntKind.wrap
    simp [IntKind.bits, IntKind.signed]
  rw [e]
  split <;> omega

inductive All2 {α β : Type} (R : α → β → Prop) : List α → List β → Prop
  | nil : All2 R [] []
  | cons {a : α} {b : β} {us : List α} {vs : List β} : R a b → All2 R us vs → All2 R (a :: us) (b :: vs)
theorem All2.len {α β : Type} {R : α → β → Prop} : ∀ {us : List α} {vs : List β}, All2 R us vs → us.length = vs.length
  | _, _, .nil => rfl
  | _, _, .cons _ h => by simp [h.len]
theorem All2.append {α β : Type} {R : α → β → Prop} : ∀ {us us' : List α} {vs vs' : List β}, All2 R us vs → All2 R us' vs' → All2 R (us ++ us') (vs ++ vs')
  | _, _, _, _, .nil, k => k
  | _, _, _, _, .cons a h, k => .cons a (h.append k)
theorem All2.map {α β : Type} {g : α → β} : ∀ {us : List α} {vs : List β}, All2 (fun a b => b = g a) us vs → vs = us.map g
  | _, _, .nil => rfl
  | _, _, .cons h k => by rw [h, k.map]; rfl
theorem All2.right {α β : Type} {R : α → β → Prop} {S : β → Prop} (hs : ∀ a b, R a b → S b) : ∀ {us : List α} {vs : List β}, All2 R us vs → ∀ b ∈ vs, S b
  | _, _, .nil, b, hb => by cases hb
  | _, _, .cons h k, b, hb => by
    rcases List.mem_cons.1 hb with rfl | hb
    · exact hs _ _ h
    · exact k.right hs b hb

/-- An index loop that appends what comes of each element. -/
theorem TT.mapLoop {α β R : Type} {Q : R → Prop} {L : Nat → Nat → Int → List β → Option R} {xs : List α} {g : Nat → α → Option β} {J : Nat → Nat → List β → Option R}
    (hL : ∀ f n i out, L f (n + 1) i out = bif decide (i < (xs.length : Int)) then (bif decide (0 ≤ i) then Option.bind (xs[i.toNat]?) (fun x => Option.bind (g f x) fun z => bif decide (out.length + [z].length ≤ 4294967296) then L f n (IntKind.wrap .i64 (i + 1)) (out ++ [z]) else none) else none) else J f n out)
    (hlen : xs.length ≤ 2147483648) (R' : α → β → Prop) (hg : ∀ x ∈ xs, TT (fun f _ => g f x) (R' x)) (hJ : ∀ ys, All2 R' xs ys → TT (fun f n => J f n ys) Q) : TT (fun f n => L f n 0 []) Q := by
  have key : ∀ k i (out : List β), xs.length - i = k → i ≤ xs.length → All2 R' (xs.take i) out → TT (fun f n => L f n (i : Int) out) Q := by
    intro k
    induction k with
    | zero =>
      intro i out hk hi ho
      have : i = xs.length := by omega
      subst this
      rw [List.take_length] at ho
      refine TT.succ (TT.eq (fun f n => hL f n _ out) (TT.cf (by simp) (hJ out ho)))
    | succ k ih =>
      intro i out hk hi ho
      have hlt : i < xs.length := by omega
      have hx : xs[i]? = some xs[i] := List.getElem?_eq_getElem hlt
      have hout : out.length = i := by rw [← ho.len]; simp; omega
      refine TT.succ (TT.eq (fun f n => hL f n _ out) (TT.ct (by simp; omega) (TT.guard (by simp) (TT.opt (b := xs[i]) (by simp [hlt]) (TT.bind (hg _ (List.getElem_mem hlt)) fun z hz => TT.guard (by simp; omega) ?_)))))
      rw [wrap_id (by omega) (by omega)]
      refine ih (i + 1) (out ++ [z]) (by omega) (by omega) ?_
      rw [List.take_add_one, hx]
      exact ho.append (.cons hz .nil)
  exact key _ 0 [] rfl (Nat.zero_le _) (by rw [List.take_zero]; exact .nil)

/-- An index loop with a state. -/
theorem TT.forS {σ R : Type} {Q : R → Prop} {L : Nat → Nat → Int → σ → Option R} (N : Nat) (hN : N ≤ 2147483648) (Inv : Nat → σ → Prop)
    (step : ∀ i s, i < N → Inv i s → (∀ s', Inv (i + 1) s' → TT (fun f n => L f n ((i : Int) + 1) s') Q) → TT (fun f n => L f (n + 1) (i : Int) s) Q)
    (fin : ∀ s, Inv N s → TT (fun f n => L f (n + 1) (N : Int) s) Q) (s : σ) (h0 : Inv 0 s) : TT (fun f n => L f n 0 s) Q := by
  have key : ∀ k i s, N - i = k → i ≤ N → Inv i s → TT (fun f n => L f n (i : Int) s) Q := by
    intro k
    induction k with
    | zero =>
      intro i s hk hi hs
      have : i = N := by omega
      subst this
      exact TT.succ (fin s hs)
    | succ k ih =>
      intro i s hk hi hs
      exact TT.succ (step i s (by omega) hs fun s' hs' => ih (i + 1) s' (by omega) (by omega) hs')
  exact key _ 0 s rfl (Nat.zero_le _) h0
/-- An index loop without a state. -/
theorem TT.for {R : Type} {Q : R → Prop} {L : Nat → Nat → Int → Option R} (N : Nat) (hN : N ≤ 2147483648) (Inv : Nat → Prop)
    (step : ∀ i, i < N → Inv i → (Inv (i + 1) → TT (fun f n => L f n ((i : Int) + 1)) Q) → TT (fun f n => L f (n + 1) (i : Int)) Q)
    (fin : Inv N → TT (fun f n => L f (n + 1) (N : Int)) Q) (h0 : Inv 0) : TT (fun f n => L f n 0) Q :=
  TT.forS (σ := Unit) (L := fun f n i _ => L f n i) N hN (fun i _ => Inv i) (fun i _ hi hI k => step i hi hI fun h => k () h) (fun _ h => fin h) () h0
theorem wrapS {i N : Nat} (h : i < N) (hN : N ≤ 2147483648) : IntKind.wrap .i64 ((i : Int) + 1) = (i : Int) + 1 := wrap_id (by omega) (by omega)

/-! ### A loop within a loop -/

def T3 {α : Type} (m : Nat → Nat → Nat → Option α) (P : α → Prop) : Prop := ∃ N a, P a ∧ ∀ f n c, N ≤ f → N ≤ n → N ≤ c → m f n c = some a

section
variable {α β : Type} {P : α → Prop} {Q : β → Prop}
theorem T3.pure {a : α} (h : P a) : T3 (fun _ _ _ => some a) P := ⟨0, a, h, fun _ _ _ _ _ _ => rfl⟩
theorem T3.of {m : Nat → Nat → Option α} (h : TT m P) : T3 (fun f n _ => m f n) P := by
  obtain ⟨N, a, ha, h⟩ := h
  exact ⟨N, a, ha, fun f n _ hf hn _ => h f n hf hn⟩
theorem T3.bind {m : Nat → Nat → Option α} {k : Nat → Nat → Nat → α → Option β} (h : TT m P) (hk : ∀ a, P a → T3 (fun f n c => k f n c a) Q) : T3 (fun f n c => Option.bind (m f n) (k f n c)) Q := by
  obtain ⟨N, a, ha, h⟩ := h
  obtain ⟨N', b, hb, h'⟩ := hk a ha
  refine ⟨max N N', b, hb, fun f n c hf hn hc => ?_⟩
  simp only [h f n (by omega) (by omega), Option.bind_some]
  exact h' f n c (by omega) (by omega) (by omega)
theorem T3.guard {b : Bool} {m : Nat → Nat → Nat → Option α} (hb : b = true) (h : T3 m P) : T3 (fun f n c => bif b then m f n c else none) P := by
  subst hb; exact h
theorem T3.cond {b : Bool} {m m' : Nat → Nat → Nat → Option α} (h1 : b = true → T3 m P) (h2 : b = false → T3 m' P) : T3 (fun f n c => bif b then m f n c else m' f n c) P := by
  cases b with
  | true => exact h1 rfl
  | false => exact h2 rfl
theorem T3.ct {b : Bool} {m m' : Nat → Nat → Nat → Option α} (hb : b = true) (h : T3 m P) : T3 (fun f n c => bif b then m f n c else m' f n c) P := by
  subst hb; exact h
theorem T3.cf {b : Bool} {m m' : Nat → Nat → Nat → Option α} (hb : b = false) (h : T3 m' P) : T3 (fun f n c => bif b then m f n c else m' f n c) P := by
  subst hb; exact h
theorem T3.opt {o : Option β} {b : β} {k : Nat → Nat → Nat → β → Option α} (ho : o = some b) (h : T3 (fun f n c => k f n c b) P) : T3 (fun f n c => Option.bind o (k f n c)) P := by
  subst ho; exact h
theorem T3.loop {L : Nat → Nat → Nat → Option α} (h : T3 L P) : TT (fun f n => L f n f) P := by
  obtain ⟨N, a, ha, h⟩ := h
  exact ⟨N, a, ha, fun f n hf hn => h f n f hf hn hf⟩
theorem T3.succ {m : Nat → Nat → Nat → Option α} (h : T3 (fun f n c => m f n (c + 1)) P) : T3 m P := by
  obtain ⟨N, a, ha, h⟩ := h
  refine ⟨N + 1, a, ha, fun f n c hf hn hc => ?_⟩
  obtain ⟨k, rfl⟩ : ∃ k, c = k + 1 := ⟨c - 1, by omega⟩
  exact h f n k (by omega) (by omega) (by omega)
theorem T3.forS {σ : Type} {L : Nat → Nat → Nat → Int → σ → Option α} (N : Nat) (hN : N ≤ 2147483648) (Inv : Nat → σ → Prop)
    (step : ∀ i s, i < N → Inv i s → (∀ s', Inv (i + 1) s' → T3 (fun f n c => L f n c ((i : Int) + 1) s') P) → T3 (fun f n c => L f n (c + 1) (i : Int) s) P)
    (fin : ∀ s, Inv N s → T3 (fun f n c => L f n (c + 1) (N : Int) s) P) (s : σ) (h0 : Inv 0 s) : T3 (fun f n c => L f n c 0 s) P := by
  have key : ∀ k i s, N - i = k → i ≤ N → Inv i s → T3 (fun f n c => L f n c (i : Int) s) P := by
    intro k
    induction k with
    | zero =>
      intro i s hk hi hs
      have : i = N := by omega
      subst this
      exact T3.succ (fin s hs)
    | succ k ih =>
      intro i s hk hi hs
      exact T3.succ (step i s (by omega) hs fun s' hs' => ih (i + 1) s' (by omega) (by omega) hs')
  exact key _ 0 s rfl (Nat.zero_le _) h0
end

end Go.Am
