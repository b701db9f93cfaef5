/- Plain laws of the tree's functions: statements, in the reference. -/
import Derived.Test.YtafpcogpabnjmaaPlH
set_option linter.unusedVariables false
set_option linter.unusedSimpArgs false
set_option linter.unusedSectionVars false
namespace Go.Vm

def formsL : List T119 := (F80 0).getD []
theorem F80_ev (k : Nat) : F80 k = some formsL := rfl
theorem ask_in {kd : Int} (h1 : 1 ≤ kd) (h2 : kd ≤ 16) : ∃ a b c d e, idx formsL kd = some ⟨a, b, c, d, e⟩ ∧ ask kd = ((a == 1), (b == 1), c, (!(d == 0)), (!(e == 0)), true) ∧ c ≤ 2 := by
  have : kd = 1 ∨ kd = 2 ∨ kd = 3 ∨ kd = 4 ∨ kd = 5 ∨ kd = 6 ∨ kd = 7 ∨ kd = 8 ∨ kd = 9 ∨ kd = 10 ∨ kd = 11 ∨ kd = 12 ∨ kd = 13 ∨ kd = 14 ∨ kd = 15 ∨ kd = 16 := by omega
  rcases this with rfl | rfl | rfl | rfl | rfl | rfl | rfl | rfl | rfl | rfl | rfl | rfl | rfl | rfl | rfl | rfl <;> exact ⟨_, _, _, _, _, rfl, rfl, by decide⟩
theorem ask_out {kd : Int} (h : kd < 1 ∨ kd > 16) : (ask kd).2.2.2.2.2 = false := by
  have n : ∀ m : Int, 1 ≤ m → m ≤ 16 → (kd == m) = false := fun m h1 h2 => beq_no (by omega)
  simp only [ask, F119, F119_j0, F119_j1, F119_j2, n 1 (by omega) (by omega), n 2 (by omega) (by omega), n 3 (by omega) (by omega), n 4 (by omega) (by omega), n 5 (by omega) (by omega), n 6 (by omega) (by omega), n 7 (by omega) (by omega), n 8 (by omega) (by omega), n 9 (by omega) (by omega), n 10 (by omega) (by omega), n 11 (by omega) (by omega), n 12 (by omega) (by omega), n 13 (by omega) (by omega), n 14 (by omega) (by omega), n 15 (by omega) (by omega), n 16 (by omega) (by omega), cond_false, Option.getD_some]
theorem F81_ev (s : ByteArray) (hl : s.size ≤ maxLen) (want : Int) : Ev (fun k => F81 k s want) (fitB s (want == 1)) := by
  simp only [F81, fitB]
  cases (want == 1) with
  | true => exact Ev.bind (F38_ev s hl) Ev.pure
  | false => exact Ev.pure

def RT (F : Nat → Option (Int × Int)) (ok : Bool) (N0 M0 : Int) : Prop :=
  ∃ N M : Int, Ev F (N, M) ∧ (0 ≤ N → ok = true ∧ N = N0 ∧ M = M0) ∧ (ok = true → N0 ≤ 200 → M0 ≤ 8192 → N = N0 ∧ M = M0) ∧ -1 ≤ N ∧ N ≤ 200 ∧ 0 ≤ M ∧ M ≤ 8192
theorem RT_bad {F : Nat → Option (Int × Int)} {ok : Bool} {N0 M0 : Int} (h : Ev F (-1, 0)) (hn : ok = true → N0 ≤ 200 → M0 ≤ 8192 → False) : RT F ok N0 M0 :=
  ⟨-1, 0, h, fun g => by omega, fun a b c => (hn a b c).elim, by omega, by omega, by omega, by omega⟩

theorem ref_shape {d n m : Int} {xs : List T69} {i kd : Int} {na lo : ByteArray} {es : List T57} {bo el : List T69} {R : Int × Int} (h1 : na.size ≤ maxLen) (h2 : lo.size ≤ maxLen) (k1 : 1 ≤ kd) (k2 : kd ≤ 16)
    (hgo : (es.length : Int) ≤ 2 → Ev (fun k => F39_j2 k xs d n m i false es bo el) R) :
    Ev (fun k => F39_j1 k xs d n m i false kd na lo es bo el) (bif shapeS kd na lo (es.length : Int) (bo.length : Int) (el.length : Int) then R else (-1, 0)) := by
  have bad : Ev (fun k => F39_j2 k xs d n m i true es bo el) (-1, 0) := Ev.succ (by simp only [F39_j2, cond_true]; exact Ev.pure)
  obtain ⟨a, b, c, e, f, hi, ha, hc⟩ := ask_in k1 k2
  refine Ev.succ ?_
  simp only [F39_j1, cond_false, F80_ev, Option.bind_some, hi, l57_len, l69_len]
  unfold shapeS
  rw [ha]
  simp only [Bool.true_and]
  refine Ev.bind (F81_ev na h1 a) ?_
  cases fitB na (a == 1) with
  | false => exact bad
  | true =>
    simp only [Bool.not_true, cond_false, Bool.true_and]
    refine Ev.bind (F81_ev lo h2 b) ?_
    cases fitB lo (b == 1) with
    | false => exact bad
    | true =>
      simp only [Bool.not_true, cond_false, Bool.true_and, bne]
      cases hlen : ((es.length : Int) == c) with
      | false => exact bad
      | true =>
        have hgo := hgo (by have := eq_of_beq hlen; omega)
        simp only [Bool.not_true, cond_false, Bool.true_and]
        rw [← neg_le (bo.length : Int), ← neg_le (el.length : Int)]
        cases (e == 0) with
        | false =>
          simp only [Bool.not_false, cond_false, Bool.true_or, Bool.true_and]
          cases (f == 0) with
          | false => exact hgo
          | true => cases decide ((el.length : Int) > 0) with
            | true => exact bad
            | false => exact hgo
        | true => cases decide ((bo.length : Int) > 0) with
          | true => exact bad
          | false => cases (f == 0) with
            | false => exact hgo
            | true => cases decide ((el.length : Int) > 0) with
              | true => exact bad
              | false => exact hgo

theorem ref_exprs {d n a1 b1 a2 b2 : Int} {xs : List T69} {i : Nat} {es0 : List T57} {ok : Bool} {c mm : Nat} (hesl : es0.length ≤ maxLen) (hi : i < xs.length) (hxl : xs.length ≤ maxLen) (hn : 0 ≤ n ∧ n ≤ 200) (ha1 : 0 ≤ a1 ∧ a1 ≤ 200) (ha2 : 0 ≤ a2 ∧ a2 ≤ 200) (hb1 : 0 ≤ b1 ∧ b1 ≤ 8192) (hb2 : 0 ≤ b2 ∧ b2 ≤ 8192)
    (hrest : ∀ n' m' : Int, 0 ≤ n' → n' ≤ 200 → 0 ≤ m' → m' ≤ 8192 → RT (fun k => F39_l0 k xs d n' m' ((i + 1 : Nat) : Int)) ok (n' + (c : Int)) (m' + (mm : Int))) :
    ∀ (es : List T57) (j : Nat), es0.drop j = es → ws57 es → ∀ m : Int, 0 ≤ m → m + 30000 * (es.length : Int) ≤ 100000 → RT (fun k => F39_l4 k xs d n (i : Int) a1 b1 a2 b2 es0 m (j : Int)) (okEs es 12 && ok) (n + 1 + a1 + a2 + (c : Int)) (m + (cEs es : Int) + b1 + b2 + (mm : Int))
  | [], j, hj, hw, m, h0, h1 => by
    have hjl := drop_end hj
    have w1 : IntKind.wrap .i64 (n + 1) = n + 1 := by rw [IntKind.wrap_i64]; omega
    have w2 : IntKind.wrap .i64 (n + 1 + a1) = n + 1 + a1 := by rw [IntKind.wrap_i64]; omega
    have w3 : IntKind.wrap .i64 (n + 1 + a1 + a2) = n + 1 + a1 + a2 := by rw [IntKind.wrap_i64]; omega
    have w4 : IntKind.wrap .i64 (m + b1) = m + b1 := by simp at h1; rw [IntKind.wrap_i64]; omega
    have w5 : IntKind.wrap .i64 (m + b1 + b2) = m + b1 + b2 := by simp at h1; rw [IntKind.wrap_i64]; omega
    have yes : Ev (fun k => F39_j5 k xs d (n + 1 + a1 + a2) (m + b1 + b2) (i : Int) true) (-1, 0) := Ev.succ (by simp only [F39_j5, cond_true]; exact Ev.pure)
    simp only [okEs, Bool.true_and, cEs]
    by_cases hq : n + 1 + a1 + a2 > 200
    · refine RT_bad (Ev.succ ?_) fun _ g _ => by omega
      simp only [F39_l4, l57_len, ge_dec hjl, cond_false, w1, w2, w3, w4, w5, hq, decide_true, cond_true]
      exact yes
    · by_cases hq2 : m + b1 + b2 > 8192
      · refine RT_bad (Ev.succ ?_) fun _ _ g => by omega
        simp only [F39_l4, l57_len, ge_dec hjl, cond_false, w1, w2, w3, w4, w5, hq, decide_false, cond_false, hq2, decide_true]
        exact yes
      · obtain ⟨N, M, e1, e2, e3, e4⟩ := hrest (n + 1 + a1 + a2) (m + b1 + b2) (by omega) (by omega) (by omega) (by omega)
        refine ⟨N, M, Ev.succ ?_, fun g => ?_, fun g1 g2 g3 => ?_, e4⟩
        · simp only [F39_l4, l57_len, ge_dec hjl, cond_false, w1, w2, w3, w4, w5, hq, decide_false, cond_false, hq2]
          refine Ev.succ ?_
          simp only [F39_j5, cond_false, wrap_nat hi hxl]
          exact e1
        · obtain ⟨a, b, c⟩ := e2 g
          exact ⟨a, by omega, by simp; omega⟩
        · have hz : ((0 : Nat) : Int) = 0 := rfl
          rw [hz] at g3 ⊢
          obtain ⟨a, b⟩ := e3 g1 (by omega) (by omega)
          exact ⟨a, by omega⟩
  | e :: es, j, hj, hw, m, h0, h1 => by
    obtain ⟨q1, q2, q3⟩ := idx_drop hj
    obtain ⟨r, e1, e2, e3, e4, e5⟩ := refE e hw.1 12 (by omega) (by omega)
    have hlen : ((e :: es).length : Int) = (es.length : Int) + 1 := by simp
    by_cases hr : r < 0
    · refine RT_bad (Ev.succ ?_) fun g1 _ g3 => ?_
      · obtain ⟨x1, x2, x3, x4, x5, x6⟩ := e
        simp only [F39_l4, l57_len, lt_dec q2, cond_true, q1, Option.bind_some]
        refine Ev.bind e1 ?_
        simp only [hr, decide_true, cond_true]
        exact Ev.pure
      · simp only [okEs, Bool.and_eq_true] at g1
        simp only [cEs] at g3
        have := e3 g1.1.1 (by omega)
        omega
    · obtain ⟨ok1, c1⟩ := e2 (by omega)
      have hwm : IntKind.wrap .i64 (m + r) = m + r := by rw [IntKind.wrap_i64]; omega
      obtain ⟨N, M, f1, f2, f3, f4⟩ := ref_exprs hesl hi hxl hn ha1 ha2 hb1 hb2 hrest es (j + 1) q3 hw.2 (m + r) (by omega) (by omega)
      refine ⟨N, M, Ev.succ ?_, fun g => ?_, fun g1 g2 g3 => ?_, f4⟩
      · obtain ⟨x1, x2, x3, x4, x5, x6⟩ := e
        simp only [F39_l4, l57_len, lt_dec q2, cond_true, q1, Option.bind_some]
        refine Ev.bind e1 ?_
        simp only [hr, decide_false, cond_false, hwm, wrap_nat q2 hesl]
        exact f1
      · obtain ⟨a, b, c⟩ := f2 g
        simp only [Bool.and_eq_true] at a
        refine ⟨by simp [okEs, ok1, a.1, a.2], b, ?_⟩
        simp only [cEs]; omega
      · simp only [okEs, Bool.and_eq_true] at g1
        simp only [cEs] at g3 ⊢
        obtain ⟨a, b⟩ := f3 (by simp [g1.1.2, g1.2]) g2 (by omega)
        exact ⟨a, by omega⟩
end Go.Vm
