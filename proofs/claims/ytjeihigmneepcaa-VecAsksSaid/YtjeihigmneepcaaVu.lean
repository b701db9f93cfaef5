/- Equality of flat values; maps; shifts and divisions by any number; texts of bytes. -/
import Derived.Test.YtjeihigmneepcaaVt
import Derived.Laws.StructEq
import Derived.Laws.BytesArg
import Derived.MapKept
set_option linter.unusedVariables false
set_option linter.unusedSectionVars false
set_option linter.unusedSimpArgs false
namespace Go.Vm
variable [Glob]

/-! ### equality -/
def aeqD : TypeDesc → AV → AV → Option Bool
  | .int _, .int k a, .int k' b => bif decide (k = k') then some (a == b) else none
  | .string, .str a, .str b => some (a.toList == b.toList)
  | .bool, .bool a, .bool b => some (a == b)
  | _, _, _ => none
def aeqF (tab : TypeId → Option TI) : List Field → List AV → List AV → Option Bool
  | [], [], [] => some true
  | f :: fs, x :: xs, y :: ys => match (tab f.type).map TI.desc with
    | some d => match aeqD d x y, aeqF tab fs xs ys with
      | some a, some b => some (a && b)
      | _, _ => none
    | none => none
  | _, _, _ => none
def eqT (tab : TypeId → Option TI) (t : TypeId) (x y : AV) : Option Bool := match (tab t).map TI.desc with
  | some (.struct fs) => match x, y with
    | .agg xs, .agg ys => aeqF tab fs.toList xs ys
    | _, _ => none
  | some d => aeqD d x y
  | none => none
def flatF : Nat → List Field → Bool
  | _, [] => true
  | o, f :: fs => Nat.beq f.offset o && ((f.name != "_") && flatF (o + 1) fs)
def flatT (P : Program) (tab : TypeId → Option TI) (t : TypeId) : Bool := match (tab t).map TI.desc with
  | some (.struct fs) => flatF 0 fs.toList && (!P.stoodInHeld t && !P.eqGuardType P.depth t)
  | some _ => true
  | none => false

section
variable {P : Program} {tab : TypeId → Option TI} {N : Nat} {env : Env} {L L' : List AObj} {o : Oper} {v : AV} {w : World}

theorem equalD {S : St} {t : TypeId} {d : TypeDesc} (ht : P.underlying t = some d) {u1 u2 : Value} {x y : AV} {b : Bool} (h : aeqD d x y = some b) (hx : RV S u1 x) (hy : RV S u2 y) (n : Nat) :
    (Op.equalIn (n + 1) t u1 u2).run P w = .ok b w ∧ (b = true → ∀ m, Instr.sameBits m u1 u2 = true) ∧ (∀ em, (Instr.checkKey em (n + 1) t u1).run P w = .ok () w) ∧ u1.oneCell' = true := by
  unfold aeqD at h
  split at h
  · rename_i k0 k a k' b'
    cases hk : decide (k = k') <;> simp only [hk, cond_true, cond_false] at h
    · cases h
    have := of_decide_eq_true hk
    subst this
    cases h
    cases hx; cases hy
    exact ⟨run_equalIn_int w n t k _ a b' ht, fun e m => by cases m <;> simpa [Instr.sameBits] using e, fun em => by simp [Instr.checkKey, run_underlying ht], rfl⟩
  · cases h
    cases hx; cases hy
    refine ⟨run_equalIn_string w n t _ _ ht, fun e m => ?_, fun em => by simp [Instr.checkKey, run_underlying ht], rfl⟩
    rw [← beq_toListBytes] at e
    cases m <;> simpa [Instr.sameBits] using e
  · cases h
    cases hx; cases hy
    exact ⟨run_equalIn_bool' w n t _ _ ht, fun e m => by cases m <;> simpa [Instr.sameBits] using e, fun em => by simp [Instr.checkKey, run_underlying ht], rfl⟩
  · cases h
theorem aeqD_scal {d : TypeDesc} {x y : AV} {b : Bool} (h : aeqD d x y = some b) : aggD d = false := by
  unfold aeqD at h
  split at h <;> first | rfl | cases h
theorem run_part_scal {t : TypeId} {d : TypeDesc} (ht : P.underlying t = some d) (ha : aggD d = false) {xs : Array Value} {o : Nat} {u : Value} (hu : xs[o]? = some u) : (part t xs o).run P w = .ok u w := by
  simp [part, run_isAgg ht, ha, hu]
theorem equalF (hT : TabOk P tab) {S : St} : ∀ {fs : List Field} {xs ys : List AV} {us vs : List Value} {b : Bool} {o : Nat} {U V : Array Value}, aeqF tab fs xs ys = some b → flatF o fs = true → RVs S us xs → RVs S vs ys →
    U.toList.drop o = us → V.toList.drop o = vs → ∀ n, (Op.eqFields (n + 1) U V fs).run P w = .ok b w ∧ (b = true → ∀ m, ((us.zip vs).all fun p => Instr.sameBits m p.1 p.2) = true) ∧ us.length = vs.length
  | [], [], [], us, vs, b, o, U, V, h, hf, hx, hy, hU, hV, n => by
    simp only [aeqF, Option.some.injEq] at h
    subst h
    cases hx; cases hy
    exact ⟨by simp [Op.eqFields], by simp, rfl⟩
  | f :: fs, x :: xs, y :: ys, us, vs, b, o, U, V, h, hf, hx, hy, hU, hV, n => by
    simp only [aeqF] at h
    simp only [flatF, Bool.and_eq_true] at hf
    obtain ⟨hf1, hf2, hf3⟩ := hf
    have hf1 := Nat.eq_of_beq_eq_true hf1
    split at h
    · rename_i d hd
      split at h
      · rename_i b1 b2 h1 h2
        cases h
        have ht := tab_desc hT hd
        cases hx with
        | cons hx hxs =>
          cases hy with
          | cons hy hys =>
            rename_i u us v vs
            have hu : U[o]? = some u := by
              have := congrArg (fun l => l[0]?) hU
              simpa using this
            have hv : V[o]? = some v := by
              have := congrArg (fun l => l[0]?) hV
              simpa using this
            have hU' : U.toList.drop (o + 1) = us := by rw [← List.drop_drop, hU]; rfl
            have hV' : V.toList.drop (o + 1) = vs := by rw [← List.drop_drop, hV]; rfl
            obtain ⟨e1, e2, _, _⟩ := equalD (w := w) ht h1 hx hy n
            obtain ⟨r1, r2, r3⟩ := equalF hT h2 hf3 hxs hys hU' hV' n
            have ha := aeqD_scal h1
            refine ⟨?_, fun e m => ?_, by simp [r3]⟩
            · have hn : f.name ≠ "_" := by simpa using hf2
              simp only [Op.eqFields, hn, ne_eq, not_false_eq_true, if_true, Sem.run_bind, hf1, run_part_scal ht ha hu, run_part_scal ht ha hv, Result.andThen_ok, e1]
              cases b1 with
              | false => simp
              | true => simpa using r1
            · simp only [Bool.and_eq_true] at e
              simp [e2 e.1 m, r2 e.2 m]
      · cases h
    · cases h
  | [], [], _ :: _, _, _, _, _, _, _, h, _, _, _, _, _, _ => by simp [aeqF] at h
  | [], _ :: _, _, _, _, _, _, _, _, h, _, _, _, _, _, _ => by simp [aeqF] at h
  | _ :: _, [], _, _, _, _, _, _, _, h, _, _, _, _, _, _ => by simp [aeqF] at h
  | _ :: _, _ :: _, [], _, _, _, _, _, _, h, _, _, _, _, _, _ => by simp [aeqF] at h
theorem fieldsOf_eq {t : TypeId} {fs : Array Field} (h : P.underlying t = some (.struct fs)) : P.fieldsOf t = fs := by simp [Program.fieldsOf, h]
theorem checkF (hT : TabOk P tab) {S : St} : ∀ {fs : List Field} {xs : List AV} {us : List Value} {b : Bool} {o : Nat} {U : Array Value}, aeqF tab fs xs xs = some b → flatF o fs = true → RVs S us xs → U.toList.drop o = us →
    ∀ (em : Bool) (n : Nat), (forIn (m := Sem) fs PUnit.unit fun f _ => do
      if f.name ≠ "_" then
        Instr.checkKey em (n + 1) f.type (← part f.type U f.offset)
        pure (ForInStep.yield PUnit.unit)
      else pure (ForInStep.yield PUnit.unit)).run P w = .ok PUnit.unit w
  | [], xs, us, b, o, U, h, hf, hx, hU, em, n => by simp
  | f :: fs, x :: xs, us, b, o, U, h, hf, hx, hU, em, n => by
    simp only [aeqF] at h
    simp only [flatF, Bool.and_eq_true] at hf
    obtain ⟨hf1, hf2, hf3⟩ := hf
    have hf1 := Nat.eq_of_beq_eq_true hf1
    split at h
    · rename_i d hd
      split at h
      · rename_i b1 b2 h1 h2
        have ht := tab_desc hT hd
        cases hx with
        | cons hx hxs =>
          rename_i u us
          have hu : U[o]? = some u := by
            have := congrArg (fun l => l[0]?) hU
            simpa using this
          have hU' : U.toList.drop (o + 1) = us := by rw [← List.drop_drop, hU]; rfl
          obtain ⟨_, _, e3, _⟩ := equalD (w := w) ht h1 hx hx n
          have r := checkF hT h2 hf3 hxs hU' em n
          have ha := aeqD_scal h1
          have hn : f.name ≠ "_" := by simpa using hf2
          simp only [List.forIn_cons, hn, ne_eq, not_false_eq_true, if_true, Sem.run_bind, hf1, run_part_scal ht ha hu, Result.andThen_ok, e3, Sem.run_pure]
          exact r
      · cases h
    · cases h
  | _ :: _, [], _, _, _, _, h, _, _, _, _, _ => by simp [aeqF] at h

/-- Two values of a flat type. -/
theorem equal_sound (hT : TabOk P tab) {S : St} {t : TypeId} (hf : flatT P tab t = true) {u1 u2 : Value} {x y : AV} {b : Bool} (h : eqT tab t x y = some b) (hx : RV S u1 x) (hy : RV S u2 y) (n : Nat) :
    (Op.equalIn (n + 2) t u1 u2).run P w = .ok b w ∧ (b = true → ∀ m, Instr.sameBits (m + 1) u1 u2 = true) := by
  unfold eqT at h
  unfold flatT at hf
  split at h
  · rename_i fs hd
    rw [hd] at hf
    simp only [Bool.and_eq_true, Bool.not_eq_true'] at hf
    have ht := tab_desc hT hd
    split at h
    · rename_i xs ys
      cases hx with
      | agg hxs _ =>
        cases hy with
        | agg hys _ =>
          rename_i us _ vs _
          obtain ⟨r1, r2, r3⟩ := equalF (w := w) hT h hf.1 hxs hys (U := us.toArray) (V := vs.toArray) (by simp) (by simp) n
          refine ⟨?_, fun e m => ?_⟩
          · rw [run_equalIn_struct w (n + 1) t _ _ (by rw [fieldsOf_eq ht]; exact ht) hf.2.1, fieldsOf_eq ht]
            exact r1
          · have := r2 e m
            simp only [Instr.sameBits, List.size_toArray, r3, beq_self_eq_true, Bool.true_and]
            exact this
    · cases h
  · rename_i d hd _
    have ht := tab_desc hT (by assumption)
    obtain ⟨e1, e2, _, _⟩ := equalD (w := w) ht h hx hy (n + 1)
    exact ⟨e1, fun e m => e2 e _⟩
  · cases h
theorem check_sound (hT : TabOk P tab) {S : St} {t : TypeId} (hf : flatT P tab t = true) {u : Value} {x : AV} {b : Bool} (h : eqT tab t x x = some b) (hx : RV S u x) (em : Bool) (n : Nat) : (Instr.checkKey em (n + 2) t u).run P w = .ok () w := by
  unfold eqT at h
  unfold flatT at hf
  split at h
  · rename_i fs hd
    rw [hd] at hf
    simp only [Bool.and_eq_true, Bool.not_eq_true'] at hf
    have ht := tab_desc hT hd
    split at h
    · cases hx with
      | agg hxs _ =>
        rename_i us _
        have r := checkF (w := w) hT h hf.1 hxs (U := us.toArray) (by simp) em n
        unfold Instr.checkKey
        simp only [Sem.run_bind, run_underlying ht, Result.andThen_ok]
        simp at r
        simp [r]
    · cases h
  · rename_i d hd _
    have ht := tab_desc hT (by assumption)
    obtain ⟨_, _, e3, _⟩ := equalD (w := w) ht h hx hx (n + 1)
    exact e3 em
  · cases h

def eqOp (o : Oper) (env : Env) : Option (BinOp × TypeId × AV × AV) := match o.op with
  | .binOp op t x y _ => some (op, t, aval env x, aval env y)
  | _ => none
theorem OpJ_eqE (hT : TabOk P tab) {t : TypeId} {x y : List AV} {b : Bool} (neg : Bool) (h : eqOp o env = some (bif neg then .neq else .eql, t, .agg x, .agg y)) (hf : flatT P tab t = true) (hq : eqT tab t (.agg x) (.agg y) = some b) :
    OpJ P N env L o (.bool (bif neg then !b else b)) L := by
  unfold eqOp at h
  split at h
  · rename_i op t' x' y' ty hop
    injection h with h
    injection h with h1 h
    injection h with h2 h
    injection h with h3 h4
    subst h1; subst h2
    refine .tell fun S a hσ hI hE => ?_
    have hvx := hE.eval x'
    have hvy := hE.eval y'
    rw [h3] at hvx
    rw [h4] at hvy
    have hg : P.eqGuardType P.depth t' = false := by
      unfold eqT at hq
      unfold flatT at hf
      split at hq
      · rename_i fs hd
        rw [hd] at hf
        simp only [Bool.and_eq_true, Bool.not_eq_true'] at hf
        exact hf.2.2
      · rename_i d _ _
        cases d <;> simp [aeqD] at hq
      · cases hq
    obtain ⟨r1, _⟩ := equal_sound (w := S.w) hT hf hq hvx hvy 9998
    generalize hux : a.eval x' = ux at *
    generalize huy : a.eval y' = uy at *
    cases hvx with
    | agg _ _ =>
      cases hvy with
      | agg _ _ =>
        refine ⟨.bool (bif neg then !b else b), ?_, .bool _⟩
        cases neg with
        | true => simp only [cond_true] at hop; simp only [execOp, hop, hux, huy, Sem.run_bind, run_eqGuard_agg S.w _ _ _ _ _ _ hg, run_neq_struct, r1, Result.andThen_ok, Sem.run_pure, cond_true]
        | false => simp only [cond_false] at hop; simp only [execOp, hop, hux, huy, Sem.run_bind, run_eqGuard_agg S.w _ _ _ _ _ _ hg, run_eql_struct, r1, Result.andThen_ok, Sem.run_pure, cond_false]
  · cases h
end
end Go.Vm
