/- Plain laws of the tree's functions: statements, in the program. -/
import Derived.Test.YtafpcogpabnjmaaPlF
set_option linter.unusedVariables false
set_option linter.unusedSimpArgs false
set_option linter.unusedSectionVars false
namespace Go.Vm

def ask (kd : Int) : Bool × Bool × Int × Bool × Bool × Bool := (F119 0 kd).getD (false, false, 0, false, false, false)
theorem F119_ev (k : Nat) (kd : Int) : F119 k kd = some (ask kd) := by
  have h : F119 k kd = F119 0 kd := by simp only [F119, F119_j0, F119_j1, F119_j2]
  have h2 : (F119 0 kd).isSome = true := by
    simp only [F119, F119_j0, F119_j1, F119_j2]
    generalize (kd == 1) = b1; generalize (kd == 2) = b2; generalize (kd == 3) = b3; generalize (kd == 4) = b4; generalize (kd == 5) = b5; generalize (kd == 6) = b6; generalize (kd == 7) = b7; generalize (kd == 8) = b8
    generalize (kd == 9) = b9; generalize (kd == 10) = b10; generalize (kd == 11) = b11; generalize (kd == 12) = b12; generalize (kd == 13) = b13; generalize (kd == 14) = b14; generalize (kd == 15) = b15; generalize (kd == 16) = b16
    cases b1 <;> try rfl
    cases b2 <;> cases b4 <;> cases b10 <;> try rfl
    all_goals cases b3 <;> cases b5 <;> cases b9 <;> try rfl
    all_goals cases b6 <;> cases b7 <;> cases b8 <;> try rfl
    all_goals cases b11 <;> cases b14 <;> cases b15 <;> try rfl
    all_goals cases b12 <;> cases b13 <;> cases b16 <;> rfl
  rw [h, ask]
  cases e : F119 0 kd with
  | none => rw [e] at h2; cases h2
  | some v => rfl
def fitB (s : ByteArray) (want : Bool) : Bool := bif want then nm s else isE s
theorem F120_ev (s : ByteArray) (hl : s.size ≤ maxLen) (want : Bool) : Ev (fun k => F120 k s want) (fitB s want) := by
  cases want with
  | true => simp only [F120, cond_true, fitB]; exact Ev.bind (F75_ev s hl) Ev.pure
  | false => simp only [F120, cond_false, fitB, isE]; exact Ev.pure
def shapeS (kd : Int) (na lo : ByteArray) (nex nbo nel : Int) : Bool :=
  (ask kd).2.2.2.2.2 && (fitB na (ask kd).1 && (fitB lo (ask kd).2.1 && ((nex == (ask kd).2.2.1) && (((ask kd).2.2.2.1 || decide (nbo ≤ 0)) && ((ask kd).2.2.2.2.1 || decide (nel ≤ 0))))))
mutual
def okS : T69 → Int → Bool
  | ⟨kd, na, lo, es, bo, el, _⟩, d => decide (1 ≤ d) && (shapeS kd na lo (es.length : Int) (bo.length : Int) (el.length : Int) && (okEs es 12 && (okSs bo (d - 1) && okSs el (d - 1))))
def okSs : List T69 → Int → Bool
  | [], _ => true
  | s :: r, d => okS s d && okSs r d
end
mutual
def cS : T69 → Nat
  | ⟨_, _, _, _, bo, el, _⟩ => 1 + cSs bo + cSs el
def cSs : List T69 → Nat
  | [] => 0
  | s :: r => cS s + cSs r
end
mutual
def mS : T69 → Nat
  | ⟨_, _, _, es, bo, el, _⟩ => cEs es + mSs bo + mSs el
def mSs : List T69 → Nat
  | [] => 0
  | s :: r => mS s + mSs r
end

/-- What the program tells of statements. -/
def Told3 (F : Nat → Option (Bool × Int × Int)) (ok : Bool) (c m : Nat) (st ex : Int) : Prop :=
  ∃ (b : Bool) (st' ex' : Int), Ev F (b, st', ex') ∧ (b = true ↔ ok = true ∧ st + (c : Int) ≤ 200 ∧ ex + (m : Int) ≤ 8192) ∧ (b = true → st' = st + (c : Int) ∧ ex' = ex + (m : Int))

theorem neg_le (n : Int) : (!(decide (n > 0))) = decide (n ≤ 0) := by
  by_cases h : n > 0
  · have : ¬ n ≤ 0 := by omega
    simp [h, this]
  · have : n ≤ 0 := by omega
    simp [h, this]
/-- The checks of one statement. -/
theorem stmt_shape {d st ex : Int} {xs : List T69} {i kd : Int} {na lo : ByteArray} {es : List T57} {bo el : List T69} {R : Bool × Int × Int} (h1 : na.size ≤ maxLen) (h2 : lo.size ≤ maxLen)
    (hgo : Ev (fun k => F76_j2 k d xs i false st ex es bo el) R) :
    Ev (fun k => F76_j1 k d xs i false st ex kd na lo es bo el) (bif shapeS kd na lo (es.length : Int) (bo.length : Int) (el.length : Int) then R else (false, st, ex)) := by
  have bad : Ev (fun k => F76_j2 k d xs i true st ex es bo el) (false, st, ex) := Ev.succ (by simp only [F76_j2, cond_true]; exact Ev.pure)
  refine Ev.succ ?_
  simp only [F76_j1, cond_false, F119_ev, Option.bind_some, l57_len, l69_len]
  unfold shapeS
  generalize ask kd = q
  obtain ⟨qn, ql, qc, qb, qo, qk⟩ := q
  simp only
  cases qk with
  | false => exact bad
  | true =>
    simp only [Bool.not_true, cond_false, Bool.true_and]
    refine Ev.bind (F120_ev na h1 qn) ?_
    cases fitB na qn with
    | false => exact bad
    | true =>
      simp only [Bool.not_true, cond_false, Bool.true_and]
      refine Ev.bind (F120_ev lo h2 ql) ?_
      cases fitB lo ql with
      | false => exact bad
      | true =>
        simp only [Bool.not_true, cond_false, Bool.true_and, bne]
        cases ((es.length : Int) == qc) with
        | false => exact bad
        | true =>
          simp only [Bool.not_true, cond_false, Bool.true_and]
          rw [← neg_le (bo.length : Int), ← neg_le (el.length : Int)]
          cases qb with
          | true =>
            simp only [Bool.not_true, cond_false, Bool.true_or, Bool.true_and]
            cases qo with
            | true => exact hgo
            | false => cases decide ((el.length : Int) > 0) with
              | true => exact bad
              | false => exact hgo
          | false => cases decide ((bo.length : Int) > 0) with
            | true => exact bad
            | false => cases qo with
              | true => exact hgo
              | false => cases decide ((el.length : Int) > 0) with
                | true => exact bad
                | false => exact hgo

/-- The expressions of one statement, and what comes behind them. -/
theorem stmt_exprs {d : Int} {xs : List T69} {i : Nat} {es0 : List T57} {bo el : List T69} {ok : Bool} {c m : Nat} {st : Int} (hst : 0 ≤ st) (hst2 : st ≤ 200) (hesl : es0.length ≤ maxLen)
    (hrest : ∀ ex : Int, 0 ≤ ex → ex ≤ 8192 → Told3 (fun k => F76_l3 k d xs (i : Int) es0 st bo el (es0.length : Int) ex) ok c m st ex) :
    ∀ (es : List T57) (j : Nat), es0.drop j = es → ws57 es → ∀ ex : Int, 0 ≤ ex → ex ≤ 8192 → Told3 (fun k => F76_l3 k d xs (i : Int) es0 st bo el (j : Int) ex) (okEs es 12 && ok) c (cEs es + m) st ex
  | [], j, hj, hw, ex, h0, h1 => by
    have hjl := drop_end hj
    obtain ⟨b, st', ex', e1, e2, e3⟩ := hrest ex h0 h1
    have hz : ∀ (k : Nat), F76_l3 k d xs (i : Int) es0 st bo el (j : Int) ex = F76_l3 k d xs (i : Int) es0 st bo el (es0.length : Int) ex := by
      intro k
      cases k with
      | zero => rfl
      | succ k => simp only [F76_l3, l57_len, ge_dec hjl, ge_dec (Nat.le_refl es0.length), cond_false]
    refine ⟨b, st', ex', e1.congr hz, ?_, ?_⟩
    · simpa [okEs, cEs] using e2
    · simpa [okEs, cEs] using e3
  | e :: es, j, hj, hw, ex, h0, h1 => by
    obtain ⟨q1, q2, q3⟩ := idx_drop hj
    obtain ⟨b, x1, e1, e2, e3⟩ := progE e hw.1 12 st ex h0 h1 (by omega)
    cases b with
    | false =>
      refine ⟨false, st, x1, Ev.succ ?_, ⟨fun h => (by cases h), fun ⟨g1, g2, g3⟩ => ?_⟩, fun h => by cases h⟩
      · obtain ⟨a1, a2, a3, a4, a5, a6⟩ := e
        simp only [F76_l3, l57_len, lt_dec q2, cond_true, q1, Option.bind_some]
        exact Ev.bind e1 Ev.pure
      · exfalso
        simp only [okEs, Bool.and_eq_true] at g1
        simp only [cEs] at g3
        have := e2.2 ⟨g1.1.1, by omega⟩
        cases this
    | true =>
      have hx1 := e3 rfl
      have hok := e2.1 rfl
      obtain ⟨b, st', ex', f1, f2, f3⟩ := stmt_exprs hst hst2 hesl hrest es (j + 1) q3 hw.2 x1 (by omega) (by omega)
      refine ⟨b, st', ex', Ev.succ ?_, ?_, ?_⟩
      · obtain ⟨a1, a2, a3, a4, a5, a6⟩ := e
        simp only [F76_l3, l57_len, lt_dec q2, cond_true, q1, Option.bind_some, wrap_nat q2 hesl]
        exact Ev.bind e1 f1
      · rw [f2]
        simp only [okEs, hok.1, Bool.true_and, cEs]
        constructor
        · rintro ⟨a, b, c⟩; exact ⟨a, b, by omega⟩
        · rintro ⟨a, b, c⟩; exact ⟨a, b, by omega⟩
      · intro g
        obtain ⟨a, b⟩ := f3 g
        refine ⟨a, ?_⟩
        rw [b]
        simp only [cEs]
        omega
end Go.Vm
