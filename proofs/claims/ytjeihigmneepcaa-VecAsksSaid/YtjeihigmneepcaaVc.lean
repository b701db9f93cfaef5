/- The operations' abstract meaning, as a function, and why it is right. -/
import Derived.Test.YtjeihigmneepcaaVb
import Derived.Laws.Small
import Derived.Laws.Cover1
import Derived.Laws.Cover3
import Derived.Laws.Pointers
set_option linter.unusedVariables false
set_option linter.unusedSectionVars false
set_option linter.unusedSimpArgs false
namespace Go.Vm
variable [Glob]

/-! ### the frame -/
abbrev Env := List (Nat × AV)
def aget : Env → Nat → AV
  | [], _ => .any
  | (k, v) :: r, t => bif Nat.beq k t then v else aget r t
def aval (env : Env) : Operand → AV
  | .tmp t => aget env t
  | .const v => AV.lit v
  | .func f => .fn f [] []
  | .global _ => .any

structure EnvR (N : Nat) (S : St) (a : Act) (env : Env) : Prop where
  size : a.tmps.size = N
  get : ∀ t, RV S (a.tmps.getD t undef) (aget env t)
theorem EnvR.mono {N : Nat} {S S' : St} {a : Act} {env : Env} (h : EnvR N S a env) (l : Le S S') : EnvR N S' a env := ⟨h.size, fun t => (h.get t).mono l⟩
theorem EnvR.eval {N : Nat} {S : St} {a : Act} {env : Env} (h : EnvR N S a env) (x : Operand) : RV S (a.eval x) (aval env x) := by
  cases x with
  | tmp t => exact h.get t
  | const v => exact lit_rv S v
  | global g => exact .any _
  | func f => exact .fn (us := []) (vs := []) .nil .nil
theorem EnvR.put {N : Nat} {S : St} {a : Act} {env : Env} (h : EnvR N S a env) {d : Nat} (hd : d < N) {u : Value} {v : AV} (hv : RV S u v) : EnvR N S (a.put (some d) u) ((d, v) :: env) := by
  refine ⟨by simp [Act.put, h.size], fun t => ?_⟩
  have hs := h.size
  simp only [Act.put, aget, Array.getD_eq_getD_getElem?, Array.getElem?_setIfInBounds]
  by_cases e : d = t
  · subst e
    have : Nat.beq d d = true := Nat.beq_refl d
    simp [this, hs, hd, hv]
  · have : Nat.beq d t = false := by cases hb : Nat.beq d t with | false => rfl | true => exact absurd (Nat.eq_of_beq_eq_true hb) e
    have := h.get t
    rw [Array.getD_eq_getD_getElem?] at this
    simp_all
theorem EnvR.putNone {N : Nat} {S : St} {a : Act} {env : Env} (h : EnvR N S a env) (u : Value) : EnvR N S (a.put none u) env := h
/-- Less may be known. -/
theorem EnvR.weak {N : Nat} {S : St} {a : Act} {env env' : Env} (h : EnvR N S a env) (k : ∀ t, RV S (a.tmps.getD t undef) (aget env t) → RV S (a.tmps.getD t undef) (aget env' t)) : EnvR N S a env' := ⟨h.size, fun t => k t (h.get t)⟩

/-! ### binary operations -/
def aint (op : BinOp) (k : IntKind) (p q : Int) : Option AV :=
  match op with
  | .add => some (.int k (k.wrap (p + q)))
  | .sub => some (.int k (k.wrap (p - q)))
  | .mul => some (.int k (k.wrap (p * q)))
  | .quo => bif decide (q = 0) then none else some (.int k (k.wrap (p.tdiv q)))
  | .rem => bif decide (q = 0) then none else some (.int k (p.tmod q))
  | .and => some (.int k (bits .and k p q))
  | .or => some (.int k (bits .or k p q))
  | .xor => some (.int k (bits .xor k p q))
  | .andNot => some (.int k (bits .andNot k p q))
  | .eql => some (.bool (p == q))
  | .neq => some (.bool (p != q))
  | .lss => some (.bool (decide (p < q)))
  | .leq => some (.bool (decide (p ≤ q)))
  | .gtr => some (.bool (decide (p > q)))
  | .geq => some (.bool (decide (p ≥ q)))
  | _ => none
def astr (op : BinOp) (p q : ByteArray) : Option AV :=
  match op with
  | .eql => some (.bool (p.toList == q.toList))
  | .neq => some (.bool (!(p.toList == q.toList)))
  | .lss => some (.bool (Op.bytesLess p.toList q.toList))
  | .leq => some (.bool (Op.bytesLess p.toList q.toList || p.toList == q.toList))
  | .gtr => some (.bool (!(Op.bytesLess p.toList q.toList || p.toList == q.toList)))
  | .geq => some (.bool (!(Op.bytesLess p.toList q.toList)))
  | _ => none
/-- Is it nil? -/
def isNil : AV → Option Bool
  | .nil | .nilptr | .nilmap => some true
  | .own _ _ | .ptr _ _ | .map _ | .rp _ | .op _ _ _ _ | .sl (_ :: _) => some false
  | _ => none
def abin (d : Option TypeDesc) (L : List AObj) (op : BinOp) (x y : AV) : Option AV :=
  match x, y with
  | .int k p, .int k' q =>
    match op with
    | .shl => bif decide (q < 0) then none else some (.int k (k.wrap (p * 2 ^ min q.toNat k.bits)))
    | .shr => bif decide (q < 0) then none else some (.int k (p.fdiv (2 ^ min q.toNat k.bits)))
    | _ => bif decide (k = k') then aint op k p q else none
  | .str p, .str q => astr op p q
  | .bool p, .bool q => match d, op with
    | some .bool, .eql => some (.bool (p == q))
    | some .bool, .neq => some (.bool (!(p == q)))
    | _, _ => none
  | x, .nil => match d, op, x with
    | some (.slice _), .eql, .nil => some (.bool true)
    | some (.slice _), .neq, .nil => some (.bool false)
    | some (.slice _), .eql, .sl (_ :: _) => some (.bool false)
    | some (.slice _), .neq, .sl (_ :: _) => some (.bool true)
    | some (.slice _), .eql, .own r ver => match L[r]? with
      | some (.arr _ ver0 _ _ _) => bif ver == ver0 then some (.bool false) else none
      | _ => none
    | some (.slice _), .neq, .own r ver => match L[r]? with
      | some (.arr _ ver0 _ _ _) => bif ver == ver0 then some (.bool true) else none
      | _ => none
    | _, _, _ => none
  | .ptr _ _, .nilptr => match d, op with
    | some (.pointer _), .eql => some (.bool false)
    | some (.pointer _), .neq => some (.bool true)
    | _, _ => none
  | .nilptr, .nilptr => match d, op with
    | some (.pointer _), .eql => some (.bool true)
    | some (.pointer _), .neq => some (.bool false)
    | _, _ => none
  | .map _, .nilmap => match d, op with
    | some (.map _ _), .eql => some (.bool false)
    | some (.map _ _), .neq => some (.bool true)
    | _, _ => none
  | .nilmap, .nilmap => match d, op with
    | some (.map _ _), .eql => some (.bool true)
    | some (.map _ _), .neq => some (.bool false)
    | _, _ => none
  | _, _ => none

section
variable {P : Program} {w : World}
theorem run_aint {op : BinOp} {k : IntKind} {p q : Int} {v : AV} (h : aint op k p q = some v) (hop : op ≠ .shl ∧ op ≠ .shr) (t : TypeId) :
    ∃ u, (binOp op t (.int k p) (.int k q)).run P w = .ok u w ∧ ∀ S, RV S u v := by
  cases op <;> simp only [aint, Option.some.injEq] at h <;> try (first | contradiction | (cases h; done) | (simp at hop; done))
  all_goals first
    | (subst h; simp only [binOp, ne_eq, not_true_eq_false, if_false, Op.intArith, Op.intBits, Op.intCmp, bits]; exact ⟨_, rfl, fun S => by constructor⟩)
    | (cases hq : decide (q = 0) with
       | true => simp [hq] at h
       | false =>
         simp only [hq, cond_false, Option.some.injEq] at h
         have hq' : ¬ q = 0 := by simpa using hq
         subst h
         simp only [binOp, ne_eq, not_true_eq_false, if_false, Op.intDiv, hq']
         exact ⟨_, rfl, fun S => by constructor⟩)
theorem run_astr {op : BinOp} {p q : ByteArray} {v : AV} (h : astr op p q = some v) (t : TypeId) :
    ∃ u, (binOp op t (.string p) (.string q)).run P w = .ok u w ∧ ∀ S, RV S u v := by
  cases op <;> simp only [astr, Option.some.injEq] at h <;> try (first | contradiction | (cases h; done))
  all_goals (subst h; simp only [binOp, Op.stringOp]; exact ⟨_, rfl, fun S => by constructor⟩)
theorem run_eql_slice_nil' (t e : TypeId) (a : Option Addr) (l c : Nat) (h : P.underlying t = some (.slice e)) : (binOp .eql t (.slice a l c) (.slice none 0 0)).run P w = .ok (.bool a.isNone) w := by
  simp only [binOp]
  simp [run_equal_slice_nil w t e a l c h]
theorem run_eql_map_nil' (t k e : TypeId) (m : Option Nat) (h : P.underlying t = some (.map k e)) : (binOp .eql t (.map m) (.map none)).run P w = .ok (.bool m.isNone) w := by
  simp only [binOp]
  simp [run_equal_map_nil w t k e m h]
theorem pointee_of {t e : TypeId} (h : P.underlying t = some (.pointer e)) : P.pointee t = e := by simp [Program.pointee, h]

theorem run_abin {S : St} (hI : Inv S) {d : Option TypeDesc} {op : BinOp} {t : TypeId} (hd : ∀ d', d = some d' → P.underlying t = some d') {u1 u2 : Value} {x y v : AV} (hx : RV S u1 x) (hy : RV S u2 y) (h : abin d S.σ op x y = some v) :
    ∃ u, (binOp op t u1 u2).run P w = .ok u w ∧ RV S u v := by
  unfold abin at h
  split at h
  · rename_i k p k' q
    cases hx; cases hy
    split at h
    · cases hq : decide (q < 0) with
      | true => simp [hq] at h
      | false =>
        simp only [hq, cond_false, Option.some.injEq] at h
        have hq' : ¬ q < 0 := by simpa using hq
        subst h
        exact ⟨_, by simp only [binOp, Op.shift, hq', if_false]; rfl, .int _ _⟩
    · cases hq : decide (q < 0) with
      | true => simp [hq] at h
      | false =>
        simp only [hq, cond_false, Option.some.injEq] at h
        have hq' : ¬ q < 0 := by simpa using hq
        subst h
        exact ⟨_, by simp only [binOp, Op.shift, hq', if_false]; rfl, .int _ _⟩
    · rename_i h1 h2
      cases hk : decide (k = k') with
      | false => simp [hk] at h
      | true =>
        simp only [hk, cond_true] at h
        have hk' : k = k' := by simpa using hk
        subst hk'
        obtain ⟨u, hu, hv⟩ := run_aint (P := P) (w := w) h ⟨fun e => h1 e, fun e => h2 e⟩ t
        exact ⟨u, hu, hv S⟩
  · cases hx; cases hy
    obtain ⟨u, hu, hv⟩ := run_astr (P := P) (w := w) h t
    exact ⟨u, hu, hv S⟩
  · cases hx; cases hy
    split at h
    · cases h
      exact ⟨_, run_eql_bool w t _ _ (hd _ rfl), .bool _⟩
    · cases h
      exact ⟨_, run_neq_bool w t _ _ (hd _ rfl), .bool _⟩
    · cases h
  · cases hy
    split at h
    · cases h; cases hx
      exact ⟨_, run_eql_slice_nil' t _ _ _ _ (hd _ rfl), .bool _⟩
    · cases h; cases hx
      exact ⟨_, run_neq_slice_nil w t _ _ _ _ (hd _ rfl), .bool _⟩
    · cases h
      cases hx with
      | sl hn hcm hr hk h1 hs hc =>
        obtain ⟨ad, rfl⟩ := hs (by simp)
        exact ⟨_, run_eql_slice_nil' t _ _ _ _ (hd _ rfl), .bool _⟩
    · cases h
      cases hx with
      | sl hn hcm hr hk h1 hs hc =>
        obtain ⟨ad, rfl⟩ := hs (by simp)
        exact ⟨_, run_neq_slice_nil w t _ _ _ _ (hd _ rfl), .bool _⟩
    · split at h
      · rename_i ho
        cases hx with
        | own hg hv he =>
          rw [hg] at ho; cases ho
          obtain ⟨hve, h⟩ := bif_some h
          cases h
          obtain ⟨rfl, _, _⟩ := he (by simpa using hve)
          exact ⟨_, run_eql_slice_nil' t _ _ _ _ (hd _ rfl), .bool _⟩
      · cases h
    · split at h
      · rename_i ho
        cases hx with
        | own hg hv he =>
          rw [hg] at ho; cases ho
          obtain ⟨hve, h⟩ := bif_some h
          cases h
          obtain ⟨rfl, _, _⟩ := he (by simpa using hve)
          exact ⟨_, run_neq_slice_nil w t _ _ _ _ (hd _ rfl), .bool _⟩
      · cases h
    · cases h
  · cases hx; cases hy
    split at h <;> cases h
    · have hd' := hd _ rfl
      exact ⟨_, run_eql_pointer_nil w t _ (by rw [pointee_of hd']; exact hd'), .bool _⟩
    · have hd' := hd _ rfl
      exact ⟨_, run_neq_pointer_nil w t _ (by rw [pointee_of hd']; exact hd'), .bool _⟩
  · cases hx; cases hy
    split at h <;> cases h
    · have hd' := hd _ rfl
      exact ⟨_, run_eql_pointer_nil w t _ (by rw [pointee_of hd']; exact hd'), .bool _⟩
    · have hd' := hd _ rfl
      exact ⟨_, run_neq_pointer_nil w t _ (by rw [pointee_of hd']; exact hd'), .bool _⟩
  · cases hx; cases hy
    split at h <;> cases h
    · exact ⟨_, run_eql_map_nil' t _ _ _ (hd _ rfl), .bool _⟩
    · exact ⟨_, run_neq_map_nil w t _ _ _ (hd _ rfl), .bool _⟩
  · cases hx; cases hy
    split at h <;> cases h
    · exact ⟨_, run_eql_map_nil' t _ _ _ (hd _ rfl), .bool _⟩
    · exact ⟨_, run_neq_map_nil w t _ _ _ (hd _ rfl), .bool _⟩
  · cases h
end
end Go.Vm
