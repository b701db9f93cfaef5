/- Plain laws of the tree's functions: lists of statements, in the program. -/
import Derived.Test.YtafpcogpabnjmaaPlG
set_option linter.unusedVariables false
set_option linter.unusedSimpArgs false
set_option linter.unusedSectionVars false
namespace Go.Vm

mutual
theorem progS : ∀ (s : T69), w69 s → ∀ (d st ex : Int), -1000 ≤ d → d ≤ 1000 → 0 ≤ st → st ≤ 200 → 0 ≤ ex → ex ≤ 8192 →
    Told3 (fun k => F76 k s.f4 d st ex) (okSs s.f4 d) (cSs s.f4) (mSs s.f4) st ex ∧ Told3 (fun k => F76 k s.f5 d st ex) (okSs s.f5 d) (cSs s.f5) (mSs s.f5) st ex
  | ⟨kd, na, lo, es, bo, el, at_⟩, h, d, st, ex, hd0, hd, h1, h2, h3, h4 => by
    simp only [w69] at h
    obtain ⟨b, s1, x1, e1, e2, e3⟩ := progSs bo h.2.2.2.2.1.2 d st ex hd0 hd h1 h2 h3 h4 bo 0 rfl h.2.2.2.2.1.1
    obtain ⟨b', s1', x1', e1', e2', e3'⟩ := progSs el h.2.2.2.2.2.1.2 d st ex hd0 hd h1 h2 h3 h4 el 0 rfl h.2.2.2.2.2.1.1
    exact ⟨⟨b, s1, x1, Ev.succ (by simp only [F76]; exact e1), e2, e3⟩, ⟨b', s1', x1', Ev.succ (by simp only [F76]; exact e1'), e2', e3'⟩⟩
theorem progSs : ∀ (rest : List T69), ws69 rest → ∀ (d st ex : Int), -1000 ≤ d → d ≤ 1000 → 0 ≤ st → st ≤ 200 → 0 ≤ ex → ex ≤ 8192 → ∀ (xs : List T69) (i : Nat), xs.drop i = rest → xs.length ≤ maxLen →
    Told3 (fun k => F76_l0 k d xs (i : Int) st ex) (okSs rest d) (cSs rest) (mSs rest) st ex
  | [], h, d, st, ex, hd0, hd, h1, h2, h3, h4, xs, i, hdr, hl => by
    refine ⟨true, st, ex, Ev.succ ?_, ?_, ?_⟩
    · simp only [F76_l0, l69_len, ge_dec (drop_end hdr), cond_false]
      exact Ev.pure
    · simp [okSs, cSs, mSs]; omega
    · simp [cSs, mSs]
  | s :: rest, h, d, st, ex, hd0, hd, h1, h2, h3, h4, xs, i, hdr, hl => by
    obtain ⟨q1, q2, q3⟩ := idx_drop hdr
    have hsub := progS s h.1 (d - 1)
    have ih := fun st ex => progSs rest h.2 d st ex hd0 hd
    have hcm : cSs (s :: rest) = cS s + cSs rest ∧ mSs (s :: rest) = mS s + mSs rest := ⟨rfl, rfl⟩
    obtain ⟨kd, na, lo, es, bo, el, at_⟩ := s
    dsimp only at hsub
    have hw := h.1
    simp only [w69] at hw
    have hst1 : IntKind.wrap .i64 (st + 1) = st + 1 := by rw [IntKind.wrap_i64]; omega
    by_cases hov : st + 1 > 200 ∨ d < 1
    · refine ⟨false, st + 1, ex, Ev.succ ?_, ⟨fun g => (by cases g), fun ⟨g1, g2, g3⟩ => ?_⟩, fun g => by cases g⟩
      · have yes : Ev (fun k => F76_j1 k d xs (i : Int) true (st + 1) ex kd na lo es bo el) (false, st + 1, ex) := Ev.succ (by simp only [F76_j1, cond_true]; exact Ev.pure)
        simp only [F76_l0, l69_len, lt_dec q2, cond_true, q1, Option.bind_some, hst1]
        by_cases hq : st + 1 > 200
        · simp only [hq, decide_true, cond_true]; exact yes
        · have hd1 : d < 1 := by omega
          simp only [hq, decide_false, cond_false, hd1, decide_true]; exact yes
      · exfalso
        simp only [okSs, okS, Bool.and_eq_true, decide_eq_true_eq] at g1
        simp only [cSs, cS] at g2
        omega
    · have hd1 : 1 ≤ d := by omega
      have hs200 : st + 1 ≤ 200 := by omega
      have hwd : IntKind.wrap .i64 (d - 1) = d - 1 := by rw [IntKind.wrap_i64]; omega
      -- behind the expressions
      have hrest : ∀ x : Int, 0 ≤ x → x ≤ 8192 → Told3 (fun k => F76_l3 k d xs (i : Int) es (st + 1) bo el (es.length : Int) x) (okSs bo (d - 1) && (okSs el (d - 1) && okSs rest d)) (cSs bo + (cSs el + cSs rest)) (mSs bo + (mSs el + mSs rest)) (st + 1) x := by
        intro x hx0 hx1
        have yes : ∀ (a b : Int), Ev (fun k => F76_j4 k d xs (i : Int) true a b) (false, a, b) := fun a b => Ev.succ (by simp only [F76_j4, cond_true]; exact Ev.pure)
        obtain ⟨⟨b1, s1, x1, e1, e2, e3⟩, _⟩ := hsub (st + 1) x (by omega) (by omega) (by omega) hs200 hx0 hx1
        cases b1 with
        | false =>
          refine ⟨false, s1, x1, Ev.succ ?_, ⟨fun g => (by cases g), fun ⟨g1, g2, g3⟩ => ?_⟩, fun g => by cases g⟩
          · simp only [F76_l3, l57_len, ge_dec (Nat.le_refl es.length), cond_false, hwd]
            refine Ev.bind e1 ?_
            exact yes _ _
          · exfalso
            simp only [Bool.and_eq_true] at g1
            have := e2.2 ⟨g1.1, by omega, by omega⟩
            cases this
        | true =>
          obtain ⟨hs1, hx1'⟩ := e3 rfl
          have ok1 := e2.1 rfl
          obtain ⟨_, ⟨b2, s2, x2, f1, f2, f3⟩⟩ := hsub s1 x1 (by omega) (by omega) (by omega) (by omega) (by omega) (by omega)
          cases b2 with
          | false =>
            refine ⟨false, s2, x2, Ev.succ ?_, ⟨fun g => (by cases g), fun ⟨g1, g2, g3⟩ => ?_⟩, fun g => by cases g⟩
            · simp only [F76_l3, l57_len, ge_dec (Nat.le_refl es.length), cond_false, hwd]
              refine Ev.bind e1 ?_
              refine Ev.bind f1 ?_
              exact yes _ _
            · exfalso
              simp only [Bool.and_eq_true] at g1
              have := f2.2 ⟨g1.2.1, by omega, by omega⟩
              cases this
          | true =>
            obtain ⟨hs2, hx2⟩ := f3 rfl
            have ok2 := f2.1 rfl
            obtain ⟨b3, s3, x3, k1, k2, k3⟩ := ih s2 x2 (by omega) (by omega) (by omega) (by omega) xs (i + 1) q3 hl
            refine ⟨b3, s3, x3, Ev.succ ?_, ?_, ?_⟩
            · simp only [F76_l3, l57_len, ge_dec (Nat.le_refl es.length), cond_false, hwd]
              refine Ev.bind e1 ?_
              refine Ev.bind f1 ?_
              refine Ev.succ ?_
              simp only [F76_j4, Bool.not_true, cond_false, wrap_nat q2 hl]
              exact k1
            · rw [k2]
              simp only [ok1.1, ok2.1, Bool.true_and]
              constructor
              · rintro ⟨a, b, c⟩; exact ⟨a, by omega, by omega⟩
              · rintro ⟨a, b, c⟩; exact ⟨a, by omega, by omega⟩
            · intro g
              obtain ⟨a, b⟩ := k3 g
              omega
      have hex := stmt_exprs (st := st + 1) (by omega) hs200 hw.2.2.2.1.1 hrest es 0 rfl hw.2.2.2.1.2 ex h3 h4
      obtain ⟨b, s', x', e1, e2, e3⟩ := hex
      have hj2 : Ev (fun k => F76_j2 k d xs (i : Int) false (st + 1) ex es bo el) (b, s', x') := Ev.succ (by simp only [F76_j2, cond_false]; exact e1)
      have hsh := stmt_shape (kd := kd) (na := na) (lo := lo) hw.2.1 hw.2.2.1 hj2
      have hl0 : Ev (fun k => F76_l0 k d xs (i : Int) st ex) (bif shapeS kd na lo (es.length : Int) (bo.length : Int) (el.length : Int) then (b, s', x') else (false, st + 1, ex)) := by
        refine Ev.succ ?_
        have hq : ¬ st + 1 > 200 := by omega
        have hq2 : ¬ d < 1 := by omega
        simp only [F76_l0, l69_len, lt_dec q2, cond_true, q1, Option.bind_some, hst1, hq, hq2, decide_false, cond_false]
        exact hsh
      cases hs : shapeS kd na lo (es.length : Int) (bo.length : Int) (el.length : Int) with
      | false =>
        rw [hs] at hl0
        refine ⟨false, st + 1, ex, hl0, ⟨fun g => (by cases g), fun ⟨g1, _, _⟩ => ?_⟩, fun g => by cases g⟩
        simp [okSs, okS, hs] at g1
      | true =>
        rw [hs] at hl0
        refine ⟨b, s', x', hl0, ?_, ?_⟩
        · rw [e2]
          simp only [okSs, okS, hs, hd1, decide_true, Bool.true_and, cSs, cS, mSs, mS, Bool.and_eq_true]
          constructor
          · rintro ⟨⟨a1, a2, a3, a4⟩, b, c⟩; exact ⟨⟨⟨a1, a2, a3⟩, a4⟩, by omega, by omega⟩
          · rintro ⟨⟨⟨a1, a2, a3⟩, a4⟩, b, c⟩; exact ⟨⟨a1, a2, a3, a4⟩, by omega, by omega⟩
        · intro g
          obtain ⟨a, b⟩ := e3 g
          simp only [cSs, cS, mSs, mS]
          omega
end
end Go.Vm
