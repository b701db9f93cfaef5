/- Plain laws of the tree's functions: signs and expressions. -/
import Derived.Test.YtafpcogpabnjmaaPlC
set_option linter.unusedVariables false
set_option linter.unusedSimpArgs false
set_option linter.unusedSectionVars false
namespace Go.Vm

abbrev binL : List (List ByteArray) := [[(ByteArray.mk #[124, 124])], [(ByteArray.mk #[38, 38])], [(ByteArray.mk #[61, 61]), (ByteArray.mk #[33, 61]), (ByteArray.mk #[60]), (ByteArray.mk #[60, 61]), (ByteArray.mk #[62]), (ByteArray.mk #[62, 61])], [(ByteArray.mk #[43]), (ByteArray.mk #[45]), (ByteArray.mk #[124]), (ByteArray.mk #[94])], [(ByteArray.mk #[42]), (ByteArray.mk #[47]), (ByteArray.mk #[37]), (ByteArray.mk #[60, 60]), (ByteArray.mk #[62, 62]), (ByteArray.mk #[38])]]
def isOp (op : ByteArray) : Bool := binL.any fun xs => xs.any fun w => w.toList == op.toList
theorem beq_swap (a b : List UInt8) : (a == b) = (b == a) := by
  rw [Bool.eq_iff_iff]; constructor <;> intro h <;> (have := eq_of_beq h; subst this; exact beq_self_eq_true _)
theorem F110_ev (op : ByteArray) : ∃ v, (∀ k, F110 k op = some v) ∧ decide (v > 0) = isOp op := by
  simp only [F110, F110_j0, F110_j1, F110_j2, isOp, binL, List.any_cons, List.any_nil, Bool.or_false]
  simp only [beq_swap _ op.toList]
  generalize (op.toList == (ByteArray.mk #[42]).toList) = b0
  generalize (op.toList == (ByteArray.mk #[47]).toList) = b1
  generalize (op.toList == (ByteArray.mk #[37]).toList) = b2
  generalize (op.toList == (ByteArray.mk #[60, 60]).toList) = b3
  generalize (op.toList == (ByteArray.mk #[62, 62]).toList) = b4
  generalize (op.toList == (ByteArray.mk #[38]).toList) = b5
  generalize (op.toList == (ByteArray.mk #[43]).toList) = b6
  generalize (op.toList == (ByteArray.mk #[45]).toList) = b7
  generalize (op.toList == (ByteArray.mk #[124]).toList) = b8
  generalize (op.toList == (ByteArray.mk #[94]).toList) = b9
  generalize (op.toList == (ByteArray.mk #[61, 61]).toList) = b10
  generalize (op.toList == (ByteArray.mk #[33, 61]).toList) = b11
  generalize (op.toList == (ByteArray.mk #[60]).toList) = b12
  generalize (op.toList == (ByteArray.mk #[60, 61]).toList) = b13
  generalize (op.toList == (ByteArray.mk #[62]).toList) = b14
  generalize (op.toList == (ByteArray.mk #[62, 61]).toList) = b15
  generalize (op.toList == (ByteArray.mk #[38, 38]).toList) = b16
  generalize (op.toList == (ByteArray.mk #[124, 124]).toList) = b17
  cases b0 with
  | true => exact ⟨5, fun k => by simp, by simp⟩
  | false =>
    cases b1 with
    | true => exact ⟨5, fun k => by simp, by simp⟩
    | false =>
      cases b2 with
      | true => exact ⟨5, fun k => by simp, by simp⟩
      | false =>
        cases b3 with
        | true => exact ⟨5, fun k => by simp, by simp⟩
        | false =>
          cases b4 with
          | true => exact ⟨5, fun k => by simp, by simp⟩
          | false =>
            cases b5 with
            | true => exact ⟨5, fun k => by simp, by simp⟩
            | false =>
              cases b6 with
              | true => exact ⟨4, fun k => by simp, by simp⟩
              | false =>
                cases b7 with
                | true => exact ⟨4, fun k => by simp, by simp⟩
                | false =>
                  cases b8 with
                  | true => exact ⟨4, fun k => by simp, by simp⟩
                  | false =>
                    cases b9 with
                    | true => exact ⟨4, fun k => by simp, by simp⟩
                    | false =>
                      cases b10 with
                      | true => exact ⟨3, fun k => by simp, by simp⟩
                      | false =>
                        cases b11 with
                        | true => exact ⟨3, fun k => by simp, by simp⟩
                        | false =>
                          cases b12 with
                          | true => exact ⟨3, fun k => by simp, by simp⟩
                          | false =>
                            cases b13 with
                            | true => exact ⟨3, fun k => by simp, by simp⟩
                            | false =>
                              cases b14 with
                              | true => exact ⟨3, fun k => by simp, by simp⟩
                              | false =>
                                cases b15 with
                                | true => exact ⟨3, fun k => by simp, by simp⟩
                                | false =>
                                  cases b16 with
                                  | true => exact ⟨2, fun k => by simp, by simp⟩
                                  | false =>
                                    cases b17 with
                                    | true => exact ⟨1, fun k => by simp, by simp⟩
                                    | false =>
                                      exact ⟨0, fun k => by simp, by simp⟩

theorem F122_row (op : ByteArray) (i : Nat) (xs : List ByteArray) (hx : idx binL (i : Int) = some xs) (hi : i < 5) (hxl : xs.length ≤ maxLen) (r0 : Int) (h0 : Ev (fun k => F122_l0 k op ((i + 1 : Nat) : Int)) r0) :
    ∀ (rest : List ByteArray) (j : Nat), xs.drop j = rest → Ev (fun k => F122_l1 k op (i : Int) (j : Int)) (bif rest.any (fun w => w.toList == op.toList) then ((i + 1 : Nat) : Int) else r0)
  | [], j, hd => by
    refine Ev.succ ?_
    simp only [F122_l1, hx, Option.bind_some, l9_len, ge_dec (drop_end hd), cond_false, List.any_nil, wrap_nat (n := 5) hi (by decide)]
    exact h0
  | w :: rest, j, hd => by
    obtain ⟨h1, h2, h3⟩ := idx_drop hd
    have ih := F122_row op i xs hx hi hxl r0 h0 rest (j + 1) h3
    refine Ev.succ ?_
    simp only [F122_l1, hx, Option.bind_some, l9_len, lt_dec h2, cond_true, h1, List.any_cons, wrap_nat (n := 5) hi (by decide), wrap_nat h2 hxl]
    cases hw : (w.toList == op.toList) with
    | true => simp only [cond_true, Bool.true_or]; exact Ev.pure
    | false => simp only [cond_false, Bool.false_or]; exact ih
theorem F122_ev (op : ByteArray) : ∃ v, Ev (fun k => F122 k op) v ∧ decide (v > 0) = isOp op := by
  have e5 : Ev (fun k => F122_l0 k op ((5 : Nat) : Int)) 0 := Ev.succ (by simp only [F122_l0]; exact Ev.pure)
  have step : ∀ (i : Nat) (xs : List ByteArray) (r0 : Int), idx binL (i : Int) = some xs → i < 5 → xs.length ≤ maxLen → Ev (fun k => F122_l0 k op ((i + 1 : Nat) : Int)) r0 →
      Ev (fun k => F122_l0 k op (i : Int)) (bif xs.any (fun w => w.toList == op.toList) then ((i + 1 : Nat) : Int) else r0) := by
    intro i xs r0 hx hi hxl h0
    have := F122_row op i xs hx hi hxl r0 h0 xs 0 rfl
    refine Ev.succ ?_
    have hl : decide ((i : Int) < ((l50 binL).length : Int)) = true := by rw [l50_len]; exact lt_dec hi
    simp only [F122_l0, hl, cond_true]
    exact this
  have e4 := step 4 _ _ rfl (by decide) (by decide) e5
  have e3 := step 3 _ _ rfl (by decide) (by decide) e4
  have e2 := step 2 _ _ rfl (by decide) (by decide) e3
  have e1 := step 1 _ _ rfl (by decide) (by decide) e2
  have e0 := step 0 _ _ rfl (by decide) (by decide) e1
  refine ⟨_, by simp only [F122]; exact e0, ?_⟩
  simp only [isOp]
  rw [show binL.any (fun xs => xs.any fun w => w.toList == op.toList) = (binL[0].any (fun w => w.toList == op.toList) || (binL[1].any (fun w => w.toList == op.toList) || (binL[2].any (fun w => w.toList == op.toList) || (binL[3].any (fun w => w.toList == op.toList) || (binL[4].any (fun w => w.toList == op.toList) || false))))) from rfl]
  generalize h0 : (binL[0].any fun w => w.toList == op.toList) = b0
  generalize h1 : (binL[1].any fun w => w.toList == op.toList) = b1
  generalize h2 : (binL[2].any fun w => w.toList == op.toList) = b2
  generalize h3 : (binL[3].any fun w => w.toList == op.toList) = b3
  generalize h4 : (binL[4].any fun w => w.toList == op.toList) = b4
  show decide ((bif (binL[0].any fun w => w.toList == op.toList) then ((0 + 1 : Nat) : Int) else bif (binL[1].any fun w => w.toList == op.toList) then ((1 + 1 : Nat) : Int) else bif (binL[2].any fun w => w.toList == op.toList) then ((2 + 1 : Nat) : Int) else bif (binL[3].any fun w => w.toList == op.toList) then ((3 + 1 : Nat) : Int) else bif (binL[4].any fun w => w.toList == op.toList) then ((4 + 1 : Nat) : Int) else 0) > 0) = _
  rw [h0, h1, h2, h3, h4]
  cases b0 <;> cases b1 <;> cases b2 <;> cases b3 <;> cases b4 <;> rfl
end Go.Vm
