/-
  Plain Lean: the random source, and what is drawn from it.
-/
import Derived.Test.YtbmlendfheakeaaGreatPlT
import Derived.Test.YtbmlendfheakeaaGreatW
import Derived.KernelRfl
namespace Go.Am
open Go.Proofs
set_option linter.unusedVariables false

/-- The bytes of a source. -/
def RdOk (b : List Int) : Prop := b.length ≤ 2000 ∧ ∀ x ∈ b, 0 ≤ x ∧ x ≤ 255
/-- A place in it. -/
def At (p : Int) : Prop := 0 ≤ p ∧ p < 1099511627776

theorem xor_small {x : Int} (h0 : 0 ≤ x) (h1 : x < 4611686018427387904) : (BitVec.ofInt (IntKind.bits .i64) x ^^^ BitVec.ofInt (IntKind.bits .i64) (x.tdiv 64)).toNat < 4611686018427387904 := by
  have e1 : (BitVec.ofInt 64 x).toNat < 2 ^ 62 := by
    rw [BitVec.toNat_ofInt]; omega
  have e2 : (BitVec.ofInt 64 (x.tdiv 64)).toNat < 2 ^ 62 := by
    rw [BitVec.toNat_ofInt]
    have : x.tdiv 64 = x / 64 := Int.tdiv_eq_ediv_of_nonneg h0
    rw [this]; omega
  show (BitVec.ofInt 64 x ^^^ BitVec.ofInt 64 (x.tdiv 64)).toNat < 4611686018427387904
  rw [BitVec.toNat_xor]
  exact Nat.xor_lt_two_pow e1 e2

theorem pick_ok {b : List Int} (hb : RdOk b) {p : Int} (hp : At p) (n : Int) : TT (fun f _ => M_s_l18Rd_pick f n b p) (fun r => r.2 = p + 1 ∧ 0 ≤ r.1 ∧ (1 ≤ n → r.1 < n) ∧ (n < 1 → r.1 = 0)) := by
  obtain ⟨hl, hx⟩ := hb
  obtain ⟨hp0, hp1⟩ := hp
  have w1 : IntKind.wrap .i64 (p + 1) = p + 1 := wrap_id (by omega) (by omega)
  have w2 : IntKind.wrap .i64 (p + 1 - 1) = p := by rw [wrap_id (by omega) (by omega)]; omega
  unfold M_s_l18Rd_pick jn
  simp only [w1, w2]
  by_cases hn : n < 1
  · refine TT.ct (by simpa using hn) (TT.ct rfl (TT.pure ⟨rfl, Int.le_refl _, fun h => by omega, fun _ => rfl⟩))
  refine TT.cf (by simpa using hn) ?_
  by_cases hb0 : (b.length : Int) = 0
  · refine TT.ct (by simpa using hb0) (TT.pure ⟨rfl, Int.le_refl _, fun h => by simp only; omega, fun _ => rfl⟩)
  refine TT.cf (by simpa using hb0) ?_
  have mod : ∀ y : Int, 0 ≤ y → 0 ≤ y.tmod n ∧ y.tmod n < n := fun y hy => ⟨Int.tmod_nonneg _ hy, by
    have := Int.tmod_lt_of_pos y (show 0 < n by omega); exact this⟩
  have elem : ∀ y : Int, 0 ≤ y → y < b.length → ∃ v, b[y.toNat]? = some v ∧ 0 ≤ v ∧ v ≤ 255 := fun y h0 h1 => by
    have hlt : y.toNat < b.length := by omega
    exact ⟨b[y.toNat], by simp [hlt], hx _ (List.getElem_mem hlt)⟩
  have imod : ∀ y : Int, 0 ≤ y → 0 ≤ y.tmod (b.length : Int) ∧ y.tmod (b.length : Int) < b.length := fun y hy => ⟨Int.tmod_nonneg _ hy, Int.tmod_lt_of_pos y (by omega)⟩
  refine TT.cond (fun hlt => ?_) (fun hge => ?_)
  · have hlt' : p < b.length := by simpa using hlt
    obtain ⟨v, hv, hv0, hv1⟩ := elem p hp0 hlt'
    refine TT.guard (by simpa using hp0) (TT.opt hv (TT.guard (by simp; omega) (TT.pure ?_)))
    rw [wrap_id (by omega) (by omega)]
    have := mod v hv0
    exact ⟨rfl, this.1, fun _ => this.2, fun h => absurd h hn⟩
  · refine TT.guard (by simpa using hb0) ?_
    have w3 : IntKind.wrap .i64 (p * 7) = p * 7 := wrap_id (by omega) (by omega)
    have w4 : IntKind.wrap .i64 (p * 7 + 3) = p * 7 + 3 := wrap_id (by omega) (by omega)
    have i1 := imod p hp0
    have i2 := imod (p * 7 + 3) (by omega)
    obtain ⟨v, hv, hv0, hv1⟩ := elem _ i1.1 i1.2
    obtain ⟨u, hu, hu0, hu1⟩ := elem _ i2.1 i2.2
    simp only [w3, w4]
    refine TT.guard (by simpa using i1.1) (TT.opt hv (TT.guard (by simpa using i2.1) (TT.opt hu (TT.guard (by simp; omega) (TT.pure ?_)))))
    have hdiv : p.tdiv (b.length : Int) = p / b.length := Int.tdiv_eq_ediv_of_nonneg hp0
    have hd0 : 0 ≤ p / (b.length : Int) := Int.ediv_nonneg hp0 (by omega)
    have hd1 : p / (b.length : Int) ≤ p := Int.ediv_le_self _ hp0
    have w5 : IntKind.wrap .i64 v = v := wrap_id (by omega) (by omega)
    have w6 : IntKind.wrap .i64 (v * 131) = v * 131 := wrap_id (by omega) (by omega)
    have w7 : IntKind.wrap .i64 u = u := wrap_id (by omega) (by omega)
    have w8 : IntKind.wrap .i64 (u * 1117) = u * 1117 := wrap_id (by omega) (by omega)
    have w9 : IntKind.wrap .i64 (v * 131 + u * 1117) = v * 131 + u * 1117 := wrap_id (by omega) (by omega)
    have wa : IntKind.wrap .i64 (p * 29) = p * 29 := wrap_id (by omega) (by omega)
    have wb : IntKind.wrap .i64 (v * 131 + u * 1117 + p * 29) = v * 131 + u * 1117 + p * 29 := wrap_id (by omega) (by omega)
    have wc : IntKind.wrap .i64 (p / (b.length : Int)) = p / (b.length : Int) := wrap_id (by omega) (by omega)
    have wd : IntKind.wrap .i64 (p / (b.length : Int) * 53) = p / (b.length : Int) * 53 := wrap_id (by omega) (by omega)
    have we : IntKind.wrap .i64 (v * 131 + u * 1117 + p * 29 + p / (b.length : Int) * 53) = v * 131 + u * 1117 + p * 29 + p / (b.length : Int) * 53 := wrap_id (by omega) (by omega)
    simp only [hdiv, w5, w6, w7, w8, w9, wa, wb, wc, wd, we]
    generalize hX : v * 131 + u * 1117 + p * 29 + p / (b.length : Int) * 53 = X
    have hX0 : 0 ≤ X := by omega
    have hX1 : X < 4611686018427387904 := by omega
    have wf : IntKind.wrap .i64 (X.tdiv 64) = X.tdiv 64 := by
      have : X.tdiv 64 = X / 64 := Int.tdiv_eq_ediv_of_nonneg hX0
      exact wrap_id (by omega) (by omega)
    rw [wf]
    have hxs := xor_small hX0 hX1
    rw [wrap_id (by omega) (by omega)]
    have := mod ((BitVec.ofInt (IntKind.bits .i64) X ^^^ BitVec.ofInt (IntKind.bits .i64) (X.tdiv 64)).toNat : Int) (by omega)
    exact ⟨by trivial, this.1, fun _ => this.2, fun h => absurd h hn⟩

theorem mem_at {α : Type} {l : List α} {y : Int} (h0 : 0 ≤ y) (h1 : y < l.length) : ∃ x, l[y.toNat]? = some x ∧ x ∈ l := by
  have hlt : y.toNat < l.length := by omega
  exact ⟨l[y.toNat], by simp [hlt], List.getElem_mem hlt⟩

theorem of_ok {b : List Int} (hb : RdOk b) {p : Int} (hp : At p) (l : List ByteArray) (hl : l ≠ []) : TT (fun f _ => M_s_l18Rd_of f l b p) (fun r => r.2 = p + 1 ∧ r.1 ∈ l) := by
  have hpos : 0 < l.length := List.length_pos_iff.2 hl
  unfold M_s_l18Rd_of
  refine TT.bind (pick_ok hb hp _) fun r ⟨h1, h2, h3, _⟩ => TT.guard (by simpa using h2) ?_
  obtain ⟨x, hx, hm⟩ := mem_at h2 (h3 (by omega))
  exact TT.opt hx (TT.pure ⟨h1, hm⟩)
theorem num_ok {b : List Int} (hb : RdOk b) {p : Int} (hp : At p) (l : List Int) (hl : l ≠ []) : TT (fun f _ => M_s_l18Rd_num f l b p) (fun r => r.2 = p + 1 ∧ r.1 ∈ l) := by
  have hpos : 0 < l.length := List.length_pos_iff.2 hl
  unfold M_s_l18Rd_num
  refine TT.bind (pick_ok hb hp _) fun r ⟨h1, h2, h3, _⟩ => TT.guard (by simpa using h2) ?_
  obtain ⟨x, hx, hm⟩ := mem_at h2 (h3 (by omega))
  exact TT.opt hx (TT.pure ⟨h1, hm⟩)

/-! ### Terms of no great size -/

theorem STerm.ind {P : STerm → Prop} (h : ∀ t : STerm, (∀ k ∈ t.kids, P k) → P t) : ∀ t, P t := fun t =>
  STerm.rec (motive_1 := P) (motive_2 := fun l => ∀ k ∈ l, P k) (fun _ _ _ _ ih => h _ ih) (fun _ h => by cases h) (fun a l ha hl k hk => by
    rcases List.mem_cons.1 hk with rfl | hk
    · exact ha
    · exact hl k hk) t

mutual
def smT : STerm → Bool
  | ⟨_, _, s, ks⟩ => decide (s.size ≤ 1000) && decide (ks.length ≤ 1000) && smTs ks
def smTs : List STerm → Bool
  | [] => true
  | t :: ts => smT t && smTs ts
end
theorem smTs_iff : ∀ l : List STerm, smTs l = true ↔ ∀ t ∈ l, smT t = true
  | [] => by simp [smTs]
  | t :: ts => by simp [smTs, smTs_iff ts]
theorem smT_iff (t : STerm) : smT t = true ↔ t.name.size ≤ 1000 ∧ t.kids.length ≤ 1000 ∧ ∀ k ∈ t.kids, smT k = true := by
  obtain ⟨k, n, s, ks⟩ := t
  simp [smT, smTs_iff, and_assoc]
def smC (m : Nat) (c : SClause) : Bool := smT c.head && decide (c.body.length ≤ m) && smTs c.body
theorem smC_iff {m : Nat} (c : SClause) : smC m c = true ↔ smT c.head = true ∧ c.body.length ≤ m ∧ ∀ t ∈ c.body, smT t = true := by
  simp [smC, smTs_iff, and_assoc]
theorem smC_le {m m' : Nat} (h : m ≤ m') {c : SClause} (hc : smC m c = true) : smC m' c = true := by
  obtain ⟨h1, h2, h3⟩ := (smC_iff c).1 hc
  exact (smC_iff c).2 ⟨h1, by omega, h3⟩

mutual
def eqT : STerm → STerm → Bool
  | ⟨a, b, c, d⟩, ⟨a', b', c', d'⟩ => decide (a = a') && decide (b = b') && decide (c = c') && eqTs d d'
def eqTs : List STerm → List STerm → Bool
  | [], [] => true
  | t :: ts, u :: us => eqT t u && eqTs ts us
  | _, _ => false
end
mutual
theorem eqT_eq : ∀ t u : STerm, eqT t u = true → t = u
  | ⟨a, b, c, d⟩, ⟨a', b', c', d'⟩, h => by
    simp only [eqT, Bool.and_eq_true, decide_eq_true_eq] at h
    obtain ⟨⟨⟨rfl, rfl⟩, rfl⟩, h4⟩ := h
    rw [eqTs_eq d d' h4]
theorem eqTs_eq : ∀ l m : List STerm, eqTs l m = true → l = m
  | [], [], _ => rfl
  | t :: ts, u :: us, h => by
    simp only [eqTs, Bool.and_eq_true] at h
    rw [eqT_eq t u h.1, eqTs_eq ts us h.2]
  | [], _ :: _, h => by simp [eqTs] at h
  | _ :: _, [], h => by simp [eqTs] at h
end
def eqCs : List SClause → List SClause → Bool
  | [], [] => true
  | c :: cs, d :: ds => eqT c.head d.head && eqTs c.body d.body && eqCs cs ds
  | _, _ => false
theorem eqCs_eq : ∀ l m : List SClause, eqCs l m = true → l = m
  | [], [], _ => rfl
  | c :: cs, d :: ds, h => by
    simp only [eqCs, Bool.and_eq_true] at h
    obtain ⟨c1, c2⟩ := c
    obtain ⟨d1, d2⟩ := d
    rw [eqCs_eq cs ds h.2, show c1 = d1 from eqT_eq _ _ h.1.1, show c2 = d2 from eqTs_eq _ _ h.1.2]
  | [], _ :: _, h => by simp [eqCs] at h
  | _ :: _, [], h => by simp [eqCs] at h

theorem struct_ok (s : ByteArray) (l : List STerm) (h : l.length ≤ 1000) (P : STerm → Prop) (hp : P ⟨3, 0, s, l⟩) : TT (fun f _ => M_s_l1Struct f s l) P := by
  unfold M_s_l1Struct
  exact TT.guard (by simp; omega) (TT.pure (by simpa using hp))

theorem copy_ok : ∀ t : STerm, smT t = true → TT (fun f _ => M_s_l1Copy f t) (· = t) := by
  refine STerm.ind fun t ih ht => TT.fsucc ?_
  obtain ⟨_, h2, h3⟩ := (smT_iff t).1 ht
  show TT (fun f _ => B_s_l1Copy f (M_s_l1Copy f) t) _
  unfold B_s_l1Copy jn
  refine TT.loop (L := fun f n => L_s_l1Copy_1 (M_s_l1Copy f) t _ n 0 []) (TT.mapLoop (L := fun f n i out => L_s_l1Copy_1 (M_s_l1Copy f) t _ n i out) (xs := t.kids) (g := fun f x => M_s_l1Copy f x) (fun _ _ _ _ => rfl) (by omega) (fun a b => b = a) (fun x hx => ih x hx (h3 x hx)) fun ys hys => ?_)
  have : ys = t.kids := by
    have := All2.map (g := id) hys
    simpa using this
  rw [this]
  exact TT.pure (by cases t; rfl)

theorem copyC_ok (c : SClause) (h : smC 1000 c = true) : TT (fun f _ => M_s_l4Copy f c) (· = c) := by
  obtain ⟨h1, h2, h3⟩ := (smC_iff c).1 h
  unfold M_s_l4Copy jn
  refine TT.bind (copy_ok _ h1) fun z hz => ?_
  subst hz
  refine TT.loop (L := fun f n => L_s_l4Copy_1 f c _ n 0 []) (TT.mapLoop (L := fun f n i out => L_s_l4Copy_1 f c _ n i out) (xs := c.body) (g := fun f x => M_s_l1Copy f x) (fun _ _ _ _ => rfl) (by omega) (fun a b => b = a) (fun x hx => copy_ok x (h3 x hx)) fun ys hys => ?_)
  have : ys = c.body := by
    have := All2.map (g := id) hys
    simpa using this
  rw [this]
  exact TT.pure rfl

/-- A drawn thing, and how far the source has been read. -/
def Drew {α : Type} (S : α → Bool) (p k : Int) (r : α × Int) : Prop := S r.1 = true ∧ p ≤ r.2 ∧ r.2 ≤ p + k

def cst : Nat → Nat
  | 0 => 3
  | n + 1 => 3 * cst n + 6

theorem cst_mono : ∀ n, cst n ≤ cst (n + 1) := fun n => by simp only [cst]; omega

theorem leaf_ok {b : List Int} (hb : RdOk b) {p : Int} (hp0 : 0 ≤ p) (hp1 : p ≤ 1000000000) : TT (fun f _ => Option.bind (M_s_l18Rd_pick f 4 b p) fun z1 =>
    bif (z1.1 == 0) then (Option.bind (M_s_l18Rd_pick f 4 b z1.2) fun z2 => Option.bind (M_s_l1Var f z2.1) fun z3 => some (z3, z2.2))
    else (bif (z1.1 == 1) then (Option.bind (M_s_l18Rd_num f ([0, 1, 7, (-3), 999, (-999)]) b z1.2) fun z4 => Option.bind (M_s_l1Int f z4.1) fun z5 => some (z5, z4.2))
    else (Option.bind (M_s_l18Rd_of f ([(⟨#[97]⟩ : ByteArray), (⟨#[98]⟩ : ByteArray), (⟨#[110, 105, 108]⟩ : ByteArray), (⟨#[91, 93]⟩ : ByteArray), (⟨#[102, 111, 111]⟩ : ByteArray), (⟨#[43]⟩ : ByteArray)]) b z1.2) fun z6 =>
     Option.bind (M_s_l1Struct f z6.1 ([] : List STerm)) fun z7 => some (z7, z6.2)))) (Drew smT p 2) := by
  refine TT.bind (pick_ok hb ⟨hp0, by omega⟩ _) fun z1 ⟨h1, _, _, _⟩ => TT.cond (fun _ => ?_) fun _ => TT.cond (fun _ => ?_) fun _ => ?_
  · refine TT.bind (pick_ok hb ⟨by omega, by omega⟩ _) fun z2 ⟨h2, _, _, _⟩ => TT.bind (TT.any (fun _ _ => rfl) rfl) fun z3 hz => TT.pure ?_
    subst hz
    exact ⟨rfl, by simp only; omega, by simp only; omega⟩
  · refine TT.bind (num_ok hb ⟨by omega, by omega⟩ _ (by simp)) fun z2 ⟨h2, _⟩ => TT.bind (TT.any (fun _ _ => rfl) rfl) fun z3 hz => TT.pure ?_
    subst hz
    exact ⟨rfl, by simp only; omega, by simp only; omega⟩
  · refine TT.bind (of_ok hb ⟨by omega, by omega⟩ _ (by simp)) fun z2 ⟨h2, hm⟩ => TT.bind (struct_ok _ _ (by simp) (fun t => smT t = true) ?_) fun z3 hz => TT.pure ⟨hz, by simp only; omega, by simp only; omega⟩
    simp only [List.mem_cons, List.not_mem_nil, or_false] at hm
    rcases hm with h | h | h | h | h | h <;> rw [h] <;> rfl

theorem drawLoop_ok {b : List Int} {d : Int} {k : Nat} (ih : ∀ p : Int, 0 ≤ p → p + k ≤ 1000000000 → TT (fun f _ => M_s_l1Draw f (IntKind.wrap .i64 (d - 1)) b p) (Drew smT p k)) (nm : ByteArray) (hnm : nm.size ≤ 1000) (kd nn : Int) (q : Int) (B : Int) (hB : B ≤ 1000000000) :
    ∀ s : Int × List STerm × Int, (0 ≤ s.1 ∧ s.1 ≤ 3 ∧ s.2.1.length + s.1.toNat ≤ 10 ∧ (∀ t ∈ s.2.1, smT t = true) ∧ q ≤ s.2.2 ∧ 0 ≤ s.2.2 ∧ s.2.2 + s.1 * k ≤ B) →
      TT (fun f n => L_s_l1Draw_1 (M_s_l1Draw f) d b (fun v5 v6 => some ((STerm.mk kd nn nm v6), v5)) n s.1 s.2.1 s.2.2) (fun r => smT r.1 = true ∧ q ≤ r.2 ∧ r.2 ≤ B) := by
  refine TT.ind (fun s => s.1.toNat) _ fun s ⟨h1, h2, h3, h4, h5, h6, h7⟩ rec => ?_
  obtain ⟨v, out, p⟩ := s
  simp only at h1 h2 h3 h4 h5 h6 h7
  simp only [L_s_l1Draw_1]
  by_cases hv : 0 < v
  · have e1 : (v - 1) * (k : Int) = v * k - k := by rw [Int.sub_mul, Int.one_mul]
    have e2 : 0 ≤ (v - 1) * (k : Int) := Int.mul_nonneg (by omega) (by omega)
    refine TT.ct (by simpa using hv) (TT.bind (ih p h6 (by omega)) fun z ⟨z1, z2, z3⟩ => TT.guard (by simp; omega) ?_)
    have w : IntKind.wrap .i64 (v - 1) = v - 1 := wrap_id (by omega) (by omega)
    rw [w]
    refine rec (v - 1, out ++ [z.1], z.2) ⟨by simp only; omega, by simp only; omega, by simp; omega, ?_, by simp only; omega, by simp only; omega, by simp only; omega⟩ (by simp only; omega)
    intro t ht
    rcases List.mem_append.1 ht with ht | ht
    · exact h4 t ht
    · rw [List.mem_singleton.1 ht]; exact z1
  · have e2 : 0 ≤ v * (k : Int) := Int.mul_nonneg (by omega) (by omega)
    refine TT.cf (by simpa using hv) (TT.pure ⟨(smT_iff _).2 ⟨hnm, by simp only; omega, h4⟩, h5, by simp only; omega⟩)

theorem draw_ok {b : List Int} (hb : RdOk b) : ∀ (d : Nat), d ≤ 4 → ∀ p : Int, 0 ≤ p → p + cst d ≤ 1000000000 → TT (fun f _ => M_s_l1Draw f (d : Int) b p) (Drew smT p (cst d)) := by
  intro d
  induction d with
  | zero =>
    intro _ p h0 h1
    refine TT.fsucc ?_
    show TT (fun f _ => B_s_l1Draw f (M_s_l1Draw f) 0 b p) _
    unfold B_s_l1Draw jn
    exact TT.ct rfl (TT.ct rfl ((leaf_ok hb h0 (by omega)).mono fun r ⟨a1, a2, a3⟩ => ⟨a1, a2, by simp only [cst]; omega⟩))
  | succ d ih =>
    intro hd p h0 h1
    refine TT.fsucc ?_
    show TT (fun f _ => B_s_l1Draw f (M_s_l1Draw f) ((d + 1 : Nat) : Int) b p) _
    unfold B_s_l1Draw jn
    have hc : cst (d + 1) = 3 * cst d + 6 := rfl
    have hw : IntKind.wrap .i64 (((d + 1 : Nat) : Int) - 1) = (d : Int) := by rw [wrap_id (by omega) (by omega)]; omega
    have ih' : ∀ p : Int, 0 ≤ p → p + cst d ≤ 1000000000 → TT (fun f _ => M_s_l1Draw f (IntKind.wrap .i64 (((d + 1 : Nat) : Int) - 1)) b p) (Drew smT p (cst d)) := by rw [hw]; exact ih (by omega)
    have rest : ∀ (v3 : Bool) (v4 : Int), p ≤ v4 → v4 ≤ p + 1 → TT (fun f _ => bif v3 then (Option.bind (M_s_l18Rd_pick f 4 b v4) fun z1 =>
        bif (z1.1 == 0) then (Option.bind (M_s_l18Rd_pick f 4 b z1.2) fun z2 => Option.bind (M_s_l1Var f z2.1) fun z3 => some (z3, z2.2))
        else (bif (z1.1 == 1) then (Option.bind (M_s_l18Rd_num f ([0, 1, 7, (-3), 999, (-999)]) b z1.2) fun z4 => Option.bind (M_s_l1Int f z4.1) fun z5 => some (z5, z4.2))
        else (Option.bind (M_s_l18Rd_of f ([(⟨#[97]⟩ : ByteArray), (⟨#[98]⟩ : ByteArray), (⟨#[110, 105, 108]⟩ : ByteArray), (⟨#[91, 93]⟩ : ByteArray), (⟨#[102, 111, 111]⟩ : ByteArray), (⟨#[43]⟩ : ByteArray)]) b z1.2) fun z6 =>
          Option.bind (M_s_l1Struct f z6.1 ([] : List STerm)) fun z7 => some (z7, z6.2)))) else
        (Option.bind (M_s_l18Rd_pick f 3 b v4) fun z8 =>
          bif (z8.1 == 0) then (
            Option.bind (M_s_l1Draw f (IntKind.wrap .i64 (((d + 1 : Nat) : Int) - 1)) b z8.2) fun z9 =>
            Option.bind (M_s_l1Draw f (IntKind.wrap .i64 (((d + 1 : Nat) : Int) - 1)) b z9.2) fun za =>
            Option.bind (M_s_l1Struct f (⟨#[46]⟩ : ByteArray) ([z9.1, za.1])) fun zb => some (zb, za.2))
          else (
            Option.bind (M_s_l18Rd_of f ([(⟨#[102]⟩ : ByteArray), (⟨#[103]⟩ : ByteArray), (⟨#[115]⟩ : ByteArray), (⟨#[43]⟩ : ByteArray), (⟨#[61]⟩ : ByteArray), (⟨#[105, 115]⟩ : ByteArray), (⟨#[102, 111, 111]⟩ : ByteArray)]) b z8.2) fun zc =>
            Option.bind (M_s_l1Struct f zc.1 ([] : List STerm)) fun zd =>
            Option.bind (M_s_l18Rd_num f ([2, 1, 3, 2]) b zc.2) fun ze =>
            L_s_l1Draw_1 (M_s_l1Draw f) ((d + 1 : Nat) : Int) b (fun v5 v6 => some ((STerm.mk zd.kind zd.n zd.name v6), v5)) f ze.1 zd.kids ze.2))) (Drew smT p (cst (d + 1))) := by
      intro v3 v4 q0 q1
      refine TT.cond (fun _ => ?_) fun _ => ?_
      · exact (leaf_ok hb (by omega) (by omega)).mono fun r ⟨a1, a2, a3⟩ => ⟨a1, by omega, by omega⟩
      · refine TT.bind (pick_ok hb ⟨by omega, by omega⟩ _) fun z8 ⟨h8, _, _, _⟩ => TT.cond (fun _ => ?_) fun _ => ?_
        · refine TT.bind (ih' _ (by omega) (by omega)) fun z9 ⟨a1, a2, a3⟩ => TT.bind (ih' _ (by omega) (by omega)) fun za ⟨b1, b2, b3⟩ => TT.bind (struct_ok _ _ (by simp) (fun t => smT t = true) ?_) fun zb hz => TT.pure ⟨hz, by simp only; omega, by simp only; omega⟩
          exact (smT_iff _).2 ⟨show (⟨#[46]⟩ : ByteArray).size ≤ 1000 by decide, by simp, fun t ht => by
            simp only [List.mem_cons, List.not_mem_nil, or_false] at ht
            rcases ht with rfl | rfl
            · exact a1
            · exact b1⟩
        · refine TT.bind (of_ok hb ⟨by omega, by omega⟩ _ (by simp)) fun zc ⟨hc1, hm⟩ => TT.bind (struct_ok _ _ (by simp) (fun t => t.kids = [] ∧ t.name.size ≤ 1000) ⟨rfl, ?_⟩) fun zd ⟨hz1, hz2⟩ => TT.bind (num_ok hb ⟨by omega, by omega⟩ _ (by simp)) fun ze ⟨he1, hem⟩ => ?_
          · simp only [List.mem_cons, List.not_mem_nil, or_false] at hm
            rcases hm with h | h | h | h | h | h | h <;> rw [h] <;> decide
          · have hr : 0 ≤ ze.1 ∧ ze.1 ≤ 3 := by
              simp only [List.mem_cons, List.not_mem_nil, or_false] at hem
              omega
            rw [hz1]
            refine TT.loop (L := fun f n => L_s_l1Draw_1 (M_s_l1Draw f) ((d + 1 : Nat) : Int) b (fun v5 v6 => some ((STerm.mk zd.kind zd.n zd.name v6), v5)) n ze.1 [] ze.2) ?_
            have hk : ze.1 * (cst d : Int) ≤ 3 * cst d := Int.mul_le_mul_of_nonneg_right hr.2 (by omega)
            exact (drawLoop_ok (k := cst d) ih' zd.name hz2 zd.kind zd.n p (p + cst (d + 1)) (by omega) (ze.1, [], ze.2) ⟨hr.1, hr.2, by simp; omega, by simp, by simp only; omega, by simp only; omega, by simp only; omega⟩)
    by_cases h2 : ((d + 1 : Nat) : Int) < 2
    · exact TT.ct (by simpa using h2) (rest true p (by omega) (by omega))
    · exact TT.cf (by simpa using h2) (TT.bind (pick_ok hb ⟨by omega, by omega⟩ _) fun zf ⟨hf1, _, _, _⟩ => rest _ _ (by omega) (by omega))

end Go.Am
