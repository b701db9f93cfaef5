/- Printed by gen.py: functions of the program as Lean functions, and that they do what these say. -/
import Derived.Test.YtafpcogpabnjmaaWt
set_option linter.unusedVariables false
set_option linter.unusedSimpArgs false
set_option linter.unusedSectionVars false
set_option maxRecDepth 20000
namespace Go.Vm
mutual
def F71 : Nat → Int → ByteArray → Int → ByteArray → (List T57) → Int → Int → Option (Int)
  | 0, _, _, _, _, _, _, _ => none
  | k + 1, v1, v2, v3, v4, v5, v6, v7 =>
    F71_l0 k v7 v5 1 0
def F71_j1 : Nat → Int → (List T57) → Int → Int → Bool → Option (Int)
  | 0, _, _, _, _, _ => none
  | k4 + 1, v7, v5, v10, v11, v12 =>
    (bif v12 then
      ((idx v5 v11).bind fun ⟨v13, v14, v15, v16, v17, v18⟩ =>
        ((F71 k4 v13 v14 v15 v16 v17 v18 v7).bind fun v19 =>
          F71_l0 k4 v7 v5 (IntKind.wrap .i64 (v10 + v19)) (IntKind.wrap .i64 (v11 + 1))))
    else
      some (v10))
def F71_l0 : Nat → Int → (List T57) → Int → Int → Option (Int)
  | 0, _, _, _, _ => none
  | k1 + 1, v7, v5, v8, v9 =>
    (bif (decide (v9 < ((l57 v5).length : Int))) then
      F71_j1 k1 v7 v5 v8 v9 (decide (v8 ≤ v7))
    else
      F71_j1 k1 v7 v5 v8 v9 false)
end

theorem F71_step (K0 : Nat) (ih_F71 : ∀ k, k < K0 → ∀ (v1 : Int) (v2 : ByteArray) (v3 : Int) (v4 : ByteArray) (v5 : (List T57)) (v6 : Int) (v7 : Int) (r1 : Int), F71 k v1 v2 v3 v4 v5 v6 v7 = some (r1) → Fn prog 71 [(.agg [(.int .i64 v1), (.str v2), (.int .i64 v3), (.str v4), (.sl (l57 v5)), (.int .i64 v6)]), (.int .i64 v7)] [] (.int .i64 r1) []) : ∀ (v1 : Int) (v2 : ByteArray) (v3 : Int) (v4 : ByteArray) (v5 : (List T57)) (v6 : Int) (v7 : Int) (r1 : Int), F71 K0 v1 v2 v3 v4 v5 v6 v7 = some (r1) → Fn prog 71 [(.agg [(.int .i64 v1), (.str v2), (.int .i64 v3), (.str v4), (.sl (l57 v5)), (.int .i64 v6)]), (.int .i64 v7)] [] (.int .i64 r1) [] := by
  intro v1 v2 v3 v4 v5 v6 v7 r1 h
  cases K0 with
  | zero => rw [F71] at h; cases h
  | succ k =>
    have hk : k < k + 1 := Nat.lt_succ_self k
    rw [F71] at h
    refine Fn_bodyK hT Go.Proofs.Try.func71 (c := Go.Proofs.Try.f71.body.getD .skip) (by kernel_rfl) (by kernel_rfl) (by kernel_rfl) ?_
    refine AW_seq ?_
    refine AW_reg ?_
    refine AR_many hT 2 [1, 2] [(1, (.int .i64 v7)), (2, (.ptr 0 0))] [.cells [(.int .i64 v1), (.str v2), (.int .i64 v3), (.str v4), (.sl (l57 v5)), (.int .i64 v6)]] (by kernel_rfl) ?_
    refine AR_fin (by kernel_rfl) ?_
    refine AE_seqN ?_
    refine AW_seq ?_
    refine AW_reg ?_
    refine AR_many hT 1 [1, 2, 5] [(1, (.int .i64 v7)), (2, (.ptr 0 0)), (5, (.int .i64 1))] [.cells [(.int .i64 v1), (.str v2), (.int .i64 v3), (.str v4), (.sl (l57 v5)), (.int .i64 v6)]] (by kernel_rfl) ?_
    refine AR_fin (by kernel_rfl) ?_
    refine AE_seqN ?_
    refine AW_seq ?_
    refine AW_seq ?_
    refine AW_reg ?_
    refine AR_many hT 1 [1, 2, 5, 6] [(1, (.int .i64 v7)), (2, (.ptr 0 0)), (5, (.int .i64 1)), (6, (.int .i64 0))] [.cells [(.int .i64 v1), (.str v2), (.int .i64 v3), (.str v4), (.sl (l57 v5)), (.int .i64 v6)]] (by kernel_rfl) ?_
    refine AR_fin (by kernel_rfl) ?_
    refine AE_seqN ?_
    refine AW_block ?_
    refine AW_keep [1, 2, 5, 6] (env' := [(1, (.int .i64 v7)), (2, (.ptr 0 0)), (5, (.int .i64 1)), (6, (.int .i64 0))]) (by kernel_rfl) ?_
    refine AW_loop (fun n env L => n ≤ k ∧ ∃ (v8 : Int) (v9 : Int), env = [(1, (.int .i64 v7)), (2, (.ptr 0 0)), (5, (.int .i64 v8)), (6, (.int .i64 v9))] ∧ L = [.cells [(.int .i64 v1), (.str v2), (.int .i64 v3), (.str v4), (.sl (l57 v5)), (.int .i64 v6)]] ∧ F71_l0 n v7 v5 v8 v9 = some (r1)) k ⟨Nat.le_refl _, 1, 0, rfl, rfl, h⟩ ?_
    rintro n _ _ ⟨hn, v8, v9, rfl, rfl, h⟩
    cases n with
    | zero => rw [F71_l0] at h; cases h
    | succ k1 =>
      have h2 : k1 < (k + 1) := by omega
      rw [F71_l0] at h
      refine AW_seq ?_
      refine AW_join (fun env L => ∃ (v10 : Int) (v11 : Int) (v12 : Bool), env = [(1, (.int .i64 v7)), (2, (.ptr 0 0)), (5, (.int .i64 v10)), (6, (.int .i64 v11)), (16, (.bool v12))] ∧ L = [.cells [(.int .i64 v1), (.str v2), (.int .i64 v3), (.str v4), (.sl (l57 v5)), (.int .i64 v6)]] ∧ ∃ n, n ≤ k1 ∧ F71_j1 n v7 v5 v10 v11 v12 = some (r1)) ?_ ?_
      · rcases Bool.eq_false_or_eq_true (decide (v9 < ((l57 v5).length : Int))) with h3 | h3
        · replace h := bifT h3 h
          refine AW_reg ?_
          refine AR_many hT 5 [1, 2, 5, 6, 11] [(1, (.int .i64 v7)), (2, (.ptr 0 0)), (5, (.int .i64 v8)), (6, (.int .i64 v9)), (11, (.bool (decide (v9 < ((l57 v5).length : Int)))))] [.cells [(.int .i64 v1), (.str v2), (.int .i64 v3), (.str v4), (.sl (l57 v5)), (.int .i64 v6)]] (by kernel_rfl) ?_
          refine AR_op (by kernel_rfl) (OpJ_boolK hT (q := (decide (v9 < ((l57 v5).length : Int)))) (by kernel_rfl) h3) ?_
          refine AR_many hT 4 [1, 2, 5, 6, 16] [(1, (.int .i64 v7)), (2, (.ptr 0 0)), (5, (.int .i64 v8)), (6, (.int .i64 v9)), (16, (.bool (decide (v8 ≤ v7))))] [.cells [(.int .i64 v1), (.str v2), (.int .i64 v3), (.str v4), (.sl (l57 v5)), (.int .i64 v6)]] (by kernel_rfl) ?_
          refine AR_fin (by kernel_rfl) ?_
          refine AE_keep [1, 2, 5, 6, 16] (env' := [(1, (.int .i64 v7)), (2, (.ptr 0 0)), (5, (.int .i64 v8)), (6, (.int .i64 v9)), (16, (.bool (decide (v8 ≤ v7))))]) (by kernel_rfl) ?_
          exact AE_done ⟨v8, v9, (decide (v8 ≤ v7)), rfl, rfl, k1, Nat.le_refl _, h⟩
        · replace h := bifF h3 h
          refine AW_reg ?_
          refine AR_many hT 5 [1, 2, 5, 6, 11] [(1, (.int .i64 v7)), (2, (.ptr 0 0)), (5, (.int .i64 v8)), (6, (.int .i64 v9)), (11, (.bool (decide (v9 < ((l57 v5).length : Int)))))] [.cells [(.int .i64 v1), (.str v2), (.int .i64 v3), (.str v4), (.sl (l57 v5)), (.int .i64 v6)]] (by kernel_rfl) ?_
          refine AR_op (by kernel_rfl) (OpJ_boolK hT (q := (decide (v9 < ((l57 v5).length : Int)))) (by kernel_rfl) h3) ?_
          refine AR_many hT 4 [1, 2, 5, 6, 16] [(1, (.int .i64 v7)), (2, (.ptr 0 0)), (5, (.int .i64 v8)), (6, (.int .i64 v9)), (16, (.bool false))] [.cells [(.int .i64 v1), (.str v2), (.int .i64 v3), (.str v4), (.sl (l57 v5)), (.int .i64 v6)]] (by kernel_rfl) ?_
          refine AR_fin (by kernel_rfl) ?_
          refine AE_keep [1, 2, 5, 6, 16] (env' := [(1, (.int .i64 v7)), (2, (.ptr 0 0)), (5, (.int .i64 v8)), (6, (.int .i64 v9)), (16, (.bool false))]) (by kernel_rfl) ?_
          exact AE_done ⟨v8, v9, false, rfl, rfl, k1, Nat.le_refl _, h⟩
      · rintro _ _ ⟨v10, v11, v12, rfl, rfl, n, hn, h⟩
        obtain _ | k4 := n
        · rw [F71_j1] at h; cases h
        have h5 : k4 < (k + 1) := by omega
        rw [F71_j1] at h
        rcases Bool.eq_false_or_eq_true v12 with h6 | h6
        · replace h := bifT h6 h
          refine AW_ifT (q := v12) (by kernel_rfl) h6 ?_
          refine AE_skip ?_
          refine AE_seqN ?_
          refine AW_seq ?_
          refine AW_block ?_
          obtain ⟨⟨v13, v14, v15, v16, v17, v18⟩, h7, h⟩ := Option.bind_eq_some_iff.mp h
          try dsimp only at h
          obtain ⟨v19, h8, h⟩ := Option.bind_eq_some_iff.mp h
          try dsimp only at h
          refine AW_reg ?_
          refine AR_many hT 4 [1, 2, 5, 6, 19, 21, 22] [(1, (.int .i64 v7)), (2, (.ptr 0 0)), (5, (.int .i64 v10)), (6, (.int .i64 v11)), (19, (.int .i64 v10)), (21, (.sl (l57 v5))), (22, (.int .i64 v11))] [.cells [(.int .i64 v1), (.str v2), (.int .i64 v3), (.str v4), (.sl (l57 v5)), (.int .i64 v6)]] (by kernel_rfl) ?_
          refine AR_op (by kernel_rfl) (OpJ_indexK hT (xs := l57 v5) (j := v11) (n := 6) (by kernel_rfl) (i57 h7) (by kernel_rfl)) ?_
          refine AR_many hT 2 [1, 2, 5, 6, 19, 24, 25] [(1, (.int .i64 v7)), (2, (.ptr 0 0)), (5, (.int .i64 v10)), (6, (.int .i64 v11)), (19, (.int .i64 v10)), (24, (.agg [(.int .i64 v13), (.str v14), (.int .i64 v15), (.str v16), (.sl (l57 v17)), (.int .i64 v18)])), (25, (.int .i64 v7))] [.cells [(.int .i64 v1), (.str v2), (.int .i64 v3), (.str v4), (.sl (l57 v5)), (.int .i64 v6)]] (by kernel_rfl) ?_
          refine AR_op (by kernel_rfl) (OpJ_callK (g := 71) (args := [(.agg [(.int .i64 v13), (.str v14), (.int .i64 v15), (.str v16), (.sl (l57 v17)), (.int .i64 v18)]), (.int .i64 v7)]) (by kernel_rfl) Go.Proofs.Try.func71 (by kernel_rfl) (by kernel_rfl) (Fn_pure (ih_F71 k4 h5 v13 v14 v15 v16 v17 v18 v7 v19 h8) (by simp [AV.low, AV.lows, AObj.low]) (by simp [AV.low, AV.lows, AObj.low]))) ?_
          refine AR_many hT 2 [1, 2, 5, 6] [(1, (.int .i64 v7)), (2, (.ptr 0 0)), (5, (.int .i64 (IntKind.wrap .i64 (v10 + v19)))), (6, (.int .i64 v11))] [.cells [(.int .i64 v1), (.str v2), (.int .i64 v3), (.str v4), (.sl (l57 v5)), (.int .i64 v6)]] (by kernel_rfl) ?_
          refine AR_fin (by kernel_rfl) ?_
          refine AE_blkN ?_
          refine AE_seqN ?_
          refine AW_reg ?_
          refine AR_many hT 3 [1, 2, 5, 6] [(1, (.int .i64 v7)), (2, (.ptr 0 0)), (5, (.int .i64 (IntKind.wrap .i64 (v10 + v19)))), (6, (.int .i64 (IntKind.wrap .i64 (v11 + 1))))] [.cells [(.int .i64 v1), (.str v2), (.int .i64 v3), (.str v4), (.sl (l57 v5)), (.int .i64 v6)]] (by kernel_rfl) ?_
          refine AR_fin (by kernel_rfl) ?_
          refine AE_keep [1, 2, 5, 6] (env' := [(1, (.int .i64 v7)), (2, (.ptr 0 0)), (5, (.int .i64 (IntKind.wrap .i64 (v10 + v19)))), (6, (.int .i64 (IntKind.wrap .i64 (v11 + 1))))]) (by kernel_rfl) ?_
          exact AE_done ⟨k4, by omega, by omega, (IntKind.wrap .i64 (v10 + v19)), (IntKind.wrap .i64 (v11 + 1)), rfl, rfl, h⟩
        · replace h := bifF h6 h
          refine AW_ifF (q := v12) (by kernel_rfl) h6 ?_
          refine AE_exit ?_
          refine AE_seqX ?_
          refine AE_seqX ?_
          refine AE_blkH ?_
          refine AE_seqN ?_
          refine AW_seq ?_
          refine AW_reg ?_
          refine AR_many hT 2 [4] [(4, (.int .i64 v10))] [.cells [(.int .i64 v1), (.str v2), (.int .i64 v3), (.str v4), (.sl (l57 v5)), (.int .i64 v6)]] (by kernel_rfl) ?_
          refine AR_fin (by kernel_rfl) ?_
          refine AE_seqN ?_
          refine AE_ret ?_
          refine AE_keep [4] (env' := [(4, (.int .i64 v10))]) (by kernel_rfl) ?_
          simp only [Option.some.injEq] at h
          subst h
          exact AE_done ⟨trivial, by kernel_rfl, by kernel_rfl, by simp [AV.low, AV.lows, AObj.low], by simp [AV.low, AV.lows, AObj.low]⟩

theorem F71_all (K0 : Nat) : (∀ (v1 : Int) (v2 : ByteArray) (v3 : Int) (v4 : ByteArray) (v5 : (List T57)) (v6 : Int) (v7 : Int) (r1 : Int), F71 K0 v1 v2 v3 v4 v5 v6 v7 = some (r1) → Fn prog 71 [(.agg [(.int .i64 v1), (.str v2), (.int .i64 v3), (.str v4), (.sl (l57 v5)), (.int .i64 v6)]), (.int .i64 v7)] [] (.int .i64 r1) []) := by
  induction K0 using Nat.strongRecOn with
  | ind K0 ih => exact F71_step K0 (fun k hk => (ih k hk))

theorem F71_ok (K0 : Nat) : ∀ (v1 : Int) (v2 : ByteArray) (v3 : Int) (v4 : ByteArray) (v5 : (List T57)) (v6 : Int) (v7 : Int) (r1 : Int), F71 K0 v1 v2 v3 v4 v5 v6 v7 = some (r1) → Fn prog 71 [(.agg [(.int .i64 v1), (.str v2), (.int .i64 v3), (.str v4), (.sl (l57 v5)), (.int .i64 v6)]), (.int .i64 v7)] [] (.int .i64 r1) [] := (F71_all K0)

mutual
def F36 : Nat → (List T69) → Int → Option (Int)
  | 0, _, _ => none
  | k + 1, v1, v2 =>
    F36_l0 k v1 v2 0 0
def F36_j1 : Nat → (List T69) → Int → Int → Int → Bool → Option (Int)
  | 0, _, _, _, _, _ => none
  | k4 + 1, v1, v2, v5, v6, v7 =>
    (bif v7 then
      ((idx v1 v6).bind fun ⟨v8, v9, v10, v11, v12, v13, v14⟩ =>
        ((idx v1 v6).bind fun ⟨v15, v16, v17, v18, v19, v20, v21⟩ =>
          ((F36 k4 v19 v2).bind fun v22 =>
            ((idx v1 v6).bind fun ⟨v23, v24, v25, v26, v27, v28, v29⟩ =>
              ((F36 k4 v28 v2).bind fun v30 =>
                F36_l2 k4 v1 v2 (IntKind.wrap .i64 ((IntKind.wrap .i64 ((IntKind.wrap .i64 ((IntKind.wrap .i64 (v5 + 1)) + ((l57 v11).length : Int))) + v22)) + v30)) v6 0)))))
    else
      some (v5))
def F36_j3 : Nat → (List T69) → Int → Int → Int → Int → Bool → Option (Int)
  | 0, _, _, _, _, _, _ => none
  | k16 + 1, v1, v2, v34, v35, v36, v37 =>
    (bif v37 then
      ((idx v1 v35).bind fun ⟨v45, v46, v47, v48, v49, v50, v51⟩ =>
        ((idx v48 v36).bind fun ⟨v52, v53, v54, v55, v56, v57⟩ =>
          ((F71 k16 v52 v53 v54 v55 v56 v57 v2).bind fun v58 =>
            F36_l2 k16 v1 v2 (IntKind.wrap .i64 (v34 + v58)) v35 (IntKind.wrap .i64 (v36 + 1)))))
    else
      F36_l0 k16 v1 v2 v34 (IntKind.wrap .i64 (v35 + 1)))
def F36_l0 : Nat → (List T69) → Int → Int → Int → Option (Int)
  | 0, _, _, _, _ => none
  | k1 + 1, v1, v2, v3, v4 =>
    (bif (decide (v4 < ((l69 v1).length : Int))) then
      F36_j1 k1 v1 v2 v3 v4 (decide (v3 ≤ v2))
    else
      F36_j1 k1 v1 v2 v3 v4 false)
def F36_l2 : Nat → (List T69) → Int → Int → Int → Int → Option (Int)
  | 0, _, _, _, _, _ => none
  | k12 + 1, v1, v2, v31, v32, v33 =>
    ((idx v1 v32).bind fun ⟨v38, v39, v40, v41, v42, v43, v44⟩ =>
      (bif (decide (v33 < ((l57 v41).length : Int))) then
        F36_j3 k12 v1 v2 v31 v32 v33 (decide (v31 ≤ v2))
      else
        F36_j3 k12 v1 v2 v31 v32 v33 false))
end

theorem F36_step (K0 : Nat) (ih_F36 : ∀ k, k < K0 → ∀ (v1 : (List T69)) (v2 : Int) (r1 : Int), F36 k v1 v2 = some (r1) → Fn prog 36 [(.sl (l69 v1)), (.int .i64 v2)] [] (.int .i64 r1) []) : ∀ (v1 : (List T69)) (v2 : Int) (r1 : Int), F36 K0 v1 v2 = some (r1) → Fn prog 36 [(.sl (l69 v1)), (.int .i64 v2)] [] (.int .i64 r1) [] := by
  intro v1 v2 r1 h
  cases K0 with
  | zero => rw [F36] at h; cases h
  | succ k =>
    have hk : k < k + 1 := Nat.lt_succ_self k
    rw [F36] at h
    refine Fn_bodyK hT Go.Proofs.Try.func36 (c := Go.Proofs.Try.f36.body.getD .skip) (by kernel_rfl) (by kernel_rfl) (by kernel_rfl) ?_
    refine AW_seq ?_
    refine AW_reg ?_
    refine AR_many hT 1 [0, 1] [(0, (.sl (l69 v1))), (1, (.int .i64 v2))] [] (by kernel_rfl) ?_
    refine AR_fin (by kernel_rfl) ?_
    refine AE_seqN ?_
    refine AW_seq ?_
    refine AW_reg ?_
    refine AR_many hT 1 [0, 1, 5] [(0, (.sl (l69 v1))), (1, (.int .i64 v2)), (5, (.int .i64 0))] [] (by kernel_rfl) ?_
    refine AR_fin (by kernel_rfl) ?_
    refine AE_seqN ?_
    refine AW_seq ?_
    refine AW_seq ?_
    refine AW_reg ?_
    refine AR_many hT 1 [0, 1, 5, 6] [(0, (.sl (l69 v1))), (1, (.int .i64 v2)), (5, (.int .i64 0)), (6, (.int .i64 0))] [] (by kernel_rfl) ?_
    refine AR_fin (by kernel_rfl) ?_
    refine AE_seqN ?_
    refine AW_block ?_
    refine AW_keep [0, 1, 5, 6] (env' := [(0, (.sl (l69 v1))), (1, (.int .i64 v2)), (5, (.int .i64 0)), (6, (.int .i64 0))]) (by kernel_rfl) ?_
    refine AW_loop (fun n env L => n ≤ k ∧ ∃ (v3 : Int) (v4 : Int), env = [(0, (.sl (l69 v1))), (1, (.int .i64 v2)), (5, (.int .i64 v3)), (6, (.int .i64 v4))] ∧ L = [] ∧ F36_l0 n v1 v2 v3 v4 = some (r1)) k ⟨Nat.le_refl _, 0, 0, rfl, rfl, h⟩ ?_
    rintro n _ _ ⟨hn, v3, v4, rfl, rfl, h⟩
    cases n with
    | zero => rw [F36_l0] at h; cases h
    | succ k1 =>
      have h2 : k1 < (k + 1) := by omega
      rw [F36_l0] at h
      refine AW_seq ?_
      refine AW_join (fun env L => ∃ (v5 : Int) (v6 : Int) (v7 : Bool), env = [(0, (.sl (l69 v1))), (1, (.int .i64 v2)), (5, (.int .i64 v5)), (6, (.int .i64 v6)), (16, (.bool v7))] ∧ L = [] ∧ ∃ n, n ≤ k1 ∧ F36_j1 n v1 v2 v5 v6 v7 = some (r1)) ?_ ?_
      · rcases Bool.eq_false_or_eq_true (decide (v4 < ((l69 v1).length : Int))) with h3 | h3
        · replace h := bifT h3 h
          refine AW_reg ?_
          refine AR_many hT 4 [0, 1, 5, 6, 11] [(0, (.sl (l69 v1))), (1, (.int .i64 v2)), (5, (.int .i64 v3)), (6, (.int .i64 v4)), (11, (.bool (decide (v4 < ((l69 v1).length : Int)))))] [] (by kernel_rfl) ?_
          refine AR_op (by kernel_rfl) (OpJ_boolK hT (q := (decide (v4 < ((l69 v1).length : Int)))) (by kernel_rfl) h3) ?_
          refine AR_many hT 4 [0, 1, 5, 6, 16] [(0, (.sl (l69 v1))), (1, (.int .i64 v2)), (5, (.int .i64 v3)), (6, (.int .i64 v4)), (16, (.bool (decide (v3 ≤ v2))))] [] (by kernel_rfl) ?_
          refine AR_fin (by kernel_rfl) ?_
          refine AE_keep [0, 1, 5, 6, 16] (env' := [(0, (.sl (l69 v1))), (1, (.int .i64 v2)), (5, (.int .i64 v3)), (6, (.int .i64 v4)), (16, (.bool (decide (v3 ≤ v2))))]) (by kernel_rfl) ?_
          exact AE_done ⟨v3, v4, (decide (v3 ≤ v2)), rfl, rfl, k1, Nat.le_refl _, h⟩
        · replace h := bifF h3 h
          refine AW_reg ?_
          refine AR_many hT 4 [0, 1, 5, 6, 11] [(0, (.sl (l69 v1))), (1, (.int .i64 v2)), (5, (.int .i64 v3)), (6, (.int .i64 v4)), (11, (.bool (decide (v4 < ((l69 v1).length : Int)))))] [] (by kernel_rfl) ?_
          refine AR_op (by kernel_rfl) (OpJ_boolK hT (q := (decide (v4 < ((l69 v1).length : Int)))) (by kernel_rfl) h3) ?_
          refine AR_many hT 4 [0, 1, 5, 6, 16] [(0, (.sl (l69 v1))), (1, (.int .i64 v2)), (5, (.int .i64 v3)), (6, (.int .i64 v4)), (16, (.bool false))] [] (by kernel_rfl) ?_
          refine AR_fin (by kernel_rfl) ?_
          refine AE_keep [0, 1, 5, 6, 16] (env' := [(0, (.sl (l69 v1))), (1, (.int .i64 v2)), (5, (.int .i64 v3)), (6, (.int .i64 v4)), (16, (.bool false))]) (by kernel_rfl) ?_
          exact AE_done ⟨v3, v4, false, rfl, rfl, k1, Nat.le_refl _, h⟩
      · rintro _ _ ⟨v5, v6, v7, rfl, rfl, n, hn, h⟩
        obtain _ | k4 := n
        · rw [F36_j1] at h; cases h
        have h5 : k4 < (k + 1) := by omega
        rw [F36_j1] at h
        rcases Bool.eq_false_or_eq_true v7 with h6 | h6
        · replace h := bifT h6 h
          refine AW_ifT (q := v7) (by kernel_rfl) h6 ?_
          refine AE_skip ?_
          refine AE_seqN ?_
          refine AW_seq ?_
          refine AW_block ?_
          refine AW_seq ?_
          obtain ⟨⟨v8, v9, v10, v11, v12, v13, v14⟩, h7, h⟩ := Option.bind_eq_some_iff.mp h
          try dsimp only at h
          obtain ⟨⟨v15, v16, v17, v18, v19, v20, v21⟩, h8, h⟩ := Option.bind_eq_some_iff.mp h
          try dsimp only at h
          obtain ⟨v22, h9, h⟩ := Option.bind_eq_some_iff.mp h
          try dsimp only at h
          obtain ⟨⟨v23, v24, v25, v26, v27, v28, v29⟩, h10, h⟩ := Option.bind_eq_some_iff.mp h
          try dsimp only at h
          obtain ⟨v30, h11, h⟩ := Option.bind_eq_some_iff.mp h
          try dsimp only at h
          refine AW_drx hmix [⟨(.int .i64 v5), [], 0, 0, false⟩, ⟨(.int .i64 (IntKind.wrap .i64 (v5 + 1))), [0], 0, 0, false⟩, ⟨(.sl (l69 v1)), [], 0, 0, false⟩, ⟨(.int .i64 v6), [], 0, 0, false⟩, ⟨(.rp [(.int .i64 v8), (.str v9), (.str v10), (.sl (l57 v11)), (.sl (l69 v12)), (.sl (l69 v13)), (.int .i64 v14)]), [2, 3], 0, 0, false⟩, ⟨(.rp [(.sl (l57 v11)), (.sl (l69 v12)), (.sl (l69 v13)), (.int .i64 v14)]), [2, 3, 4], 0, 0, false⟩, ⟨(.sl (l57 v11)), [2, 3, 4, 5], 0, 0, false⟩, ⟨(.int .i64 ((l57 v11).length : Int)), [2, 3, 4, 5, 6], 0, 0, false⟩, ⟨(.int .i64 (IntKind.wrap .i64 ((IntKind.wrap .i64 (v5 + 1)) + ((l57 v11).length : Int)))), [0, 1, 2, 3, 4, 5, 6, 7], 0, 0, false⟩, ⟨(.sl (l69 v1)), [], 0, 0, false⟩, ⟨(.int .i64 v6), [], 0, 0, false⟩, ⟨(.rp [(.int .i64 v15), (.str v16), (.str v17), (.sl (l57 v18)), (.sl (l69 v19)), (.sl (l69 v20)), (.int .i64 v21)]), [9, 10], 0, 0, false⟩, ⟨(.rp [(.sl (l69 v19)), (.sl (l69 v20)), (.int .i64 v21)]), [9, 10, 11], 0, 0, false⟩, ⟨(.sl (l69 v19)), [9, 10, 11, 12], 0, 0, false⟩, ⟨(.int .i64 v2), [], 0, 0, false⟩, ⟨(.int .i64 v22), [9, 10, 11, 12, 13, 14], 0, 0, false⟩, ⟨(.int .i64 (IntKind.wrap .i64 ((IntKind.wrap .i64 ((IntKind.wrap .i64 (v5 + 1)) + ((l57 v11).length : Int))) + v22))), [0, 1, 2, 3, 4, 5, 6, 7, 8, 9, 10, 11, 12, 13, 14, 15], 0, 0, false⟩, ⟨(.sl (l69 v1)), [], 0, 0, false⟩, ⟨(.int .i64 v6), [], 0, 0, false⟩, ⟨(.rp [(.int .i64 v23), (.str v24), (.str v25), (.sl (l57 v26)), (.sl (l69 v27)), (.sl (l69 v28)), (.int .i64 v29)]), [17, 18], 0, 0, false⟩, ⟨(.rp [(.sl (l69 v28)), (.int .i64 v29)]), [17, 18, 19], 0, 0, false⟩, ⟨(.sl (l69 v28)), [17, 18, 19, 20], 0, 0, false⟩, ⟨(.int .i64 v2), [], 0, 0, false⟩, ⟨(.int .i64 v30), [9, 10, 11, 12, 13, 14, 15, 17, 18, 19, 20, 21, 22], 0, 0, false⟩, ⟨(.int .i64 (IntKind.wrap .i64 ((IntKind.wrap .i64 ((IntKind.wrap .i64 ((IntKind.wrap .i64 (v5 + 1)) + ((l57 v11).length : Int))) + v22)) + v30))), [0, 1, 2, 3, 4, 5, 6, 7, 8, 9, 10, 11, 12, 13, 14, 15, 16, 17, 18, 19, 20, 21, 22, 23], 0, 0, false⟩, ⟨(.int .i64 (IntKind.wrap .i64 ((IntKind.wrap .i64 ((IntKind.wrap .i64 ((IntKind.wrap .i64 (v5 + 1)) + ((l57 v11).length : Int))) + v22)) + v30))), [0, 1, 2, 3, 4, 5, 6, 7, 8, 9, 10, 11, 12, 13, 14, 15, 16, 17, 18, 19, 20, 21, 22, 23, 24], 0, 0, false⟩] [] (fun _ => []) [0, 1, 5, 6] [(0, (.sl (l69 v1))), (1, (.int .i64 v2)), (5, (.int .i64 (IntKind.wrap .i64 ((IntKind.wrap .i64 ((IntKind.wrap .i64 ((IntKind.wrap .i64 (v5 + 1)) + ((l57 v11).length : Int))) + v22)) + v30)))), (6, (.int .i64 v6))] [] (by kernel_rfl) rfl rfl (by kernel_rfl) ?_ ?_
          · refine SA_plain hT 4 (by kernel_rfl) ?_
            refine SA_tell (v := (.rp [(.int .i64 v8), (.str v9), (.str v10), (.sl (l57 v11)), (.sl (l69 v12)), (.sl (l69 v13)), (.int .i64 v14)])) (by kernel_rfl) (by kernel_rfl) (by kernel_rfl) (fun L => (OpJ_indexK hT (xs := l69 v1) (j := v6) (n := 7) (by kernel_rfl) (i69 h7) (by kernel_rfl))) ?_
            refine SA_plain hT 6 (by kernel_rfl) ?_
            refine SA_tell (v := (.rp [(.int .i64 v15), (.str v16), (.str v17), (.sl (l57 v18)), (.sl (l69 v19)), (.sl (l69 v20)), (.int .i64 v21)])) (by kernel_rfl) (by kernel_rfl) (by kernel_rfl) (fun L => (OpJ_indexK hT (xs := l69 v1) (j := v6) (n := 7) (by kernel_rfl) (i69 h8) (by kernel_rfl))) ?_
            refine SA_plain hT 3 (by kernel_rfl) ?_
            refine SA_tell (v := (.int .i64 v22)) (by kernel_rfl) (by kernel_rfl) (by kernel_rfl) (fun L => (OpJ_callK (g := 36) (args := [(.sl (l69 v19)), (.int .i64 v2)]) (by kernel_rfl) Go.Proofs.Try.func36 (by kernel_rfl) (by kernel_rfl) (Fn_pure (ih_F36 k4 h5 v19 v2 v22 h9) (by simp [AV.low, AV.lows, AObj.low]) (by simp [AV.low, AV.lows, AObj.low])))) ?_
            refine SA_plain hT 3 (by kernel_rfl) ?_
            refine SA_tell (v := (.rp [(.int .i64 v23), (.str v24), (.str v25), (.sl (l57 v26)), (.sl (l69 v27)), (.sl (l69 v28)), (.int .i64 v29)])) (by kernel_rfl) (by kernel_rfl) (by kernel_rfl) (fun L => (OpJ_indexK hT (xs := l69 v1) (j := v6) (n := 7) (by kernel_rfl) (i69 h10) (by kernel_rfl))) ?_
            refine SA_plain hT 3 (by kernel_rfl) ?_
            refine SA_tell (v := (.int .i64 v30)) (by kernel_rfl) (by kernel_rfl) (by kernel_rfl) (fun L => (OpJ_callK (g := 36) (args := [(.sl (l69 v28)), (.int .i64 v2)]) (by kernel_rfl) Go.Proofs.Try.func36 (by kernel_rfl) (by kernel_rfl) (Fn_pure (ih_F36 k4 h5 v28 v2 v30 h11) (by simp [AV.low, AV.lows, AObj.low]) (by simp [AV.low, AV.lows, AObj.low])))) ?_
            refine SA_plain hT 2 (by kernel_rfl) ?_
            exact SA_end (by kernel_rfl)
          refine AE_seqN ?_
          refine AW_seq ?_
          refine AW_reg ?_
          refine AR_many hT 1 [0, 1, 5, 6, 7] [(0, (.sl (l69 v1))), (1, (.int .i64 v2)), (5, (.int .i64 (IntKind.wrap .i64 ((IntKind.wrap .i64 ((IntKind.wrap .i64 ((IntKind.wrap .i64 (v5 + 1)) + ((l57 v11).length : Int))) + v22)) + v30)))), (6, (.int .i64 v6)), (7, (.int .i64 0))] [] (by kernel_rfl) ?_
          refine AR_fin (by kernel_rfl) ?_
          refine AE_seqN ?_
          refine AW_block ?_
          refine AW_keep [0, 1, 5, 6, 7] (env' := [(0, (.sl (l69 v1))), (1, (.int .i64 v2)), (5, (.int .i64 (IntKind.wrap .i64 ((IntKind.wrap .i64 ((IntKind.wrap .i64 ((IntKind.wrap .i64 (v5 + 1)) + ((l57 v11).length : Int))) + v22)) + v30)))), (6, (.int .i64 v6)), (7, (.int .i64 0))]) (by kernel_rfl) ?_
          refine AW_loop (fun n env L => n ≤ k4 ∧ ∃ (v31 : Int) (v32 : Int) (v33 : Int), env = [(0, (.sl (l69 v1))), (1, (.int .i64 v2)), (5, (.int .i64 v31)), (6, (.int .i64 v32)), (7, (.int .i64 v33))] ∧ L = [] ∧ F36_l2 n v1 v2 v31 v32 v33 = some (r1)) k4 ⟨Nat.le_refl _, (IntKind.wrap .i64 ((IntKind.wrap .i64 ((IntKind.wrap .i64 ((IntKind.wrap .i64 (v5 + 1)) + ((l57 v11).length : Int))) + v22)) + v30)), v6, 0, rfl, rfl, h⟩ ?_
          rintro n _ _ ⟨hn, v31, v32, v33, rfl, rfl, h⟩
          cases n with
          | zero => rw [F36_l2] at h; cases h
          | succ k12 =>
            have h13 : k12 < (k + 1) := by omega
            rw [F36_l2] at h
            refine AW_seq ?_
            refine AW_join (fun env L => ∃ (v34 : Int) (v35 : Int) (v36 : Int) (v37 : Bool), env = [(0, (.sl (l69 v1))), (1, (.int .i64 v2)), (5, (.int .i64 v34)), (6, (.int .i64 v35)), (7, (.int .i64 v36)), (56, (.bool v37))] ∧ L = [] ∧ ∃ n, n ≤ k12 ∧ F36_j3 n v1 v2 v34 v35 v36 v37 = some (r1)) ?_ ?_
            · obtain ⟨⟨v38, v39, v40, v41, v42, v43, v44⟩, h14, h⟩ := Option.bind_eq_some_iff.mp h
              try dsimp only at h
              rcases Bool.eq_false_or_eq_true (decide (v33 < ((l57 v41).length : Int))) with h15 | h15
              · replace h := bifT h15 h
                refine AW_reg ?_
                refine AR_many hT 3 [0, 1, 5, 6, 7, 44, 45, 46] [(0, (.sl (l69 v1))), (1, (.int .i64 v2)), (5, (.int .i64 v31)), (6, (.int .i64 v32)), (7, (.int .i64 v33)), (44, (.int .i64 v33)), (45, (.sl (l69 v1))), (46, (.int .i64 v32))] [] (by kernel_rfl) ?_
                refine AR_op (by kernel_rfl) (OpJ_indexK hT (xs := l69 v1) (j := v32) (n := 7) (by kernel_rfl) (i69 h14) (by kernel_rfl)) ?_
                refine AR_many hT 4 [0, 1, 5, 6, 7, 51] [(0, (.sl (l69 v1))), (1, (.int .i64 v2)), (5, (.int .i64 v31)), (6, (.int .i64 v32)), (7, (.int .i64 v33)), (51, (.bool (decide (v33 < ((l57 v41).length : Int)))))] [] (by kernel_rfl) ?_
                refine AR_op (by kernel_rfl) (OpJ_boolK hT (q := (decide (v33 < ((l57 v41).length : Int)))) (by kernel_rfl) h15) ?_
                refine AR_many hT 4 [0, 1, 5, 6, 7, 56] [(0, (.sl (l69 v1))), (1, (.int .i64 v2)), (5, (.int .i64 v31)), (6, (.int .i64 v32)), (7, (.int .i64 v33)), (56, (.bool (decide (v31 ≤ v2))))] [] (by kernel_rfl) ?_
                refine AR_fin (by kernel_rfl) ?_
                refine AE_keep [0, 1, 5, 6, 7, 56] (env' := [(0, (.sl (l69 v1))), (1, (.int .i64 v2)), (5, (.int .i64 v31)), (6, (.int .i64 v32)), (7, (.int .i64 v33)), (56, (.bool (decide (v31 ≤ v2))))]) (by kernel_rfl) ?_
                exact AE_done ⟨v31, v32, v33, (decide (v31 ≤ v2)), rfl, rfl, k12, Nat.le_refl _, h⟩
              · replace h := bifF h15 h
                refine AW_reg ?_
                refine AR_many hT 3 [0, 1, 5, 6, 7, 44, 45, 46] [(0, (.sl (l69 v1))), (1, (.int .i64 v2)), (5, (.int .i64 v31)), (6, (.int .i64 v32)), (7, (.int .i64 v33)), (44, (.int .i64 v33)), (45, (.sl (l69 v1))), (46, (.int .i64 v32))] [] (by kernel_rfl) ?_
                refine AR_op (by kernel_rfl) (OpJ_indexK hT (xs := l69 v1) (j := v32) (n := 7) (by kernel_rfl) (i69 h14) (by kernel_rfl)) ?_
                refine AR_many hT 4 [0, 1, 5, 6, 7, 51] [(0, (.sl (l69 v1))), (1, (.int .i64 v2)), (5, (.int .i64 v31)), (6, (.int .i64 v32)), (7, (.int .i64 v33)), (51, (.bool (decide (v33 < ((l57 v41).length : Int)))))] [] (by kernel_rfl) ?_
                refine AR_op (by kernel_rfl) (OpJ_boolK hT (q := (decide (v33 < ((l57 v41).length : Int)))) (by kernel_rfl) h15) ?_
                refine AR_many hT 4 [0, 1, 5, 6, 7, 56] [(0, (.sl (l69 v1))), (1, (.int .i64 v2)), (5, (.int .i64 v31)), (6, (.int .i64 v32)), (7, (.int .i64 v33)), (56, (.bool false))] [] (by kernel_rfl) ?_
                refine AR_fin (by kernel_rfl) ?_
                refine AE_keep [0, 1, 5, 6, 7, 56] (env' := [(0, (.sl (l69 v1))), (1, (.int .i64 v2)), (5, (.int .i64 v31)), (6, (.int .i64 v32)), (7, (.int .i64 v33)), (56, (.bool false))]) (by kernel_rfl) ?_
                exact AE_done ⟨v31, v32, v33, false, rfl, rfl, k12, Nat.le_refl _, h⟩
            · rintro _ _ ⟨v34, v35, v36, v37, rfl, rfl, n, hn, h⟩
              obtain _ | k16 := n
              · rw [F36_j3] at h; cases h
              have h17 : k16 < (k + 1) := by omega
              rw [F36_j3] at h
              rcases Bool.eq_false_or_eq_true v37 with h18 | h18
              · replace h := bifT h18 h
                refine AW_ifT (q := v37) (by kernel_rfl) h18 ?_
                refine AE_skip ?_
                refine AE_seqN ?_
                refine AW_seq ?_
                refine AW_block ?_
                obtain ⟨⟨v45, v46, v47, v48, v49, v50, v51⟩, h19, h⟩ := Option.bind_eq_some_iff.mp h
                try dsimp only at h
                obtain ⟨⟨v52, v53, v54, v55, v56, v57⟩, h20, h⟩ := Option.bind_eq_some_iff.mp h
                try dsimp only at h
                obtain ⟨v58, h21, h⟩ := Option.bind_eq_some_iff.mp h
                try dsimp only at h
                refine AW_reg ?_
                refine AR_many hT 3 [0, 1, 5, 6, 7, 59, 60, 61] [(0, (.sl (l69 v1))), (1, (.int .i64 v2)), (5, (.int .i64 v34)), (6, (.int .i64 v35)), (7, (.int .i64 v36)), (59, (.int .i64 v34)), (60, (.sl (l69 v1))), (61, (.int .i64 v35))] [] (by kernel_rfl) ?_
                refine AR_op (by kernel_rfl) (OpJ_indexK hT (xs := l69 v1) (j := v35) (n := 7) (by kernel_rfl) (i69 h19) (by kernel_rfl)) ?_
                refine AR_many hT 3 [0, 1, 5, 6, 7, 59, 64, 65] [(0, (.sl (l69 v1))), (1, (.int .i64 v2)), (5, (.int .i64 v34)), (6, (.int .i64 v35)), (7, (.int .i64 v36)), (59, (.int .i64 v34)), (64, (.sl (l57 v48))), (65, (.int .i64 v36))] [] (by kernel_rfl) ?_
                refine AR_op (by kernel_rfl) (OpJ_indexK hT (xs := l57 v48) (j := v36) (n := 6) (by kernel_rfl) (i57 h20) (by kernel_rfl)) ?_
                refine AR_many hT 2 [0, 1, 5, 6, 7, 59, 67, 68] [(0, (.sl (l69 v1))), (1, (.int .i64 v2)), (5, (.int .i64 v34)), (6, (.int .i64 v35)), (7, (.int .i64 v36)), (59, (.int .i64 v34)), (67, (.agg [(.int .i64 v52), (.str v53), (.int .i64 v54), (.str v55), (.sl (l57 v56)), (.int .i64 v57)])), (68, (.int .i64 v2))] [] (by kernel_rfl) ?_
                refine AR_op (by kernel_rfl) (OpJ_callK (g := 71) (args := [(.agg [(.int .i64 v52), (.str v53), (.int .i64 v54), (.str v55), (.sl (l57 v56)), (.int .i64 v57)]), (.int .i64 v2)]) (by kernel_rfl) Go.Proofs.Try.func71 (by kernel_rfl) (by kernel_rfl) (Fn_pure (F71_ok k16 v52 v53 v54 v55 v56 v57 v2 v58 h21) (by simp [AV.low, AV.lows, AObj.low]) (by simp [AV.low, AV.lows, AObj.low]))) ?_
                refine AR_many hT 2 [0, 1, 5, 6, 7] [(0, (.sl (l69 v1))), (1, (.int .i64 v2)), (5, (.int .i64 (IntKind.wrap .i64 (v34 + v58)))), (6, (.int .i64 v35)), (7, (.int .i64 v36))] [] (by kernel_rfl) ?_
                refine AR_fin (by kernel_rfl) ?_
                refine AE_blkN ?_
                refine AE_seqN ?_
                refine AW_reg ?_
                refine AR_many hT 3 [0, 1, 5, 6, 7] [(0, (.sl (l69 v1))), (1, (.int .i64 v2)), (5, (.int .i64 (IntKind.wrap .i64 (v34 + v58)))), (6, (.int .i64 v35)), (7, (.int .i64 (IntKind.wrap .i64 (v36 + 1))))] [] (by kernel_rfl) ?_
                refine AR_fin (by kernel_rfl) ?_
                refine AE_keep [0, 1, 5, 6, 7] (env' := [(0, (.sl (l69 v1))), (1, (.int .i64 v2)), (5, (.int .i64 (IntKind.wrap .i64 (v34 + v58)))), (6, (.int .i64 v35)), (7, (.int .i64 (IntKind.wrap .i64 (v36 + 1))))]) (by kernel_rfl) ?_
                exact AE_done ⟨k16, by omega, by omega, (IntKind.wrap .i64 (v34 + v58)), v35, (IntKind.wrap .i64 (v36 + 1)), rfl, rfl, h⟩
              · replace h := bifF h18 h
                refine AW_ifF (q := v37) (by kernel_rfl) h18 ?_
                refine AE_exit ?_
                refine AE_seqX ?_
                refine AE_seqX ?_
                refine AE_blkH ?_
                refine AE_blkN ?_
                refine AE_seqN ?_
                refine AW_reg ?_
                refine AR_many hT 3 [0, 1, 5, 6] [(0, (.sl (l69 v1))), (1, (.int .i64 v2)), (5, (.int .i64 v34)), (6, (.int .i64 (IntKind.wrap .i64 (v35 + 1))))] [] (by kernel_rfl) ?_
                refine AR_fin (by kernel_rfl) ?_
                refine AE_keep [0, 1, 5, 6] (env' := [(0, (.sl (l69 v1))), (1, (.int .i64 v2)), (5, (.int .i64 v34)), (6, (.int .i64 (IntKind.wrap .i64 (v35 + 1))))]) (by kernel_rfl) ?_
                exact AE_done ⟨k16, by omega, by omega, v34, (IntKind.wrap .i64 (v35 + 1)), rfl, rfl, h⟩
        · replace h := bifF h6 h
          refine AW_ifF (q := v7) (by kernel_rfl) h6 ?_
          refine AE_exit ?_
          refine AE_seqX ?_
          refine AE_seqX ?_
          refine AE_blkH ?_
          refine AE_seqN ?_
          refine AW_seq ?_
          refine AW_reg ?_
          refine AR_many hT 2 [4] [(4, (.int .i64 v5))] [] (by kernel_rfl) ?_
          refine AR_fin (by kernel_rfl) ?_
          refine AE_seqN ?_
          refine AE_ret ?_
          refine AE_keep [4] (env' := [(4, (.int .i64 v5))]) (by kernel_rfl) ?_
          simp only [Option.some.injEq] at h
          subst h
          exact AE_done ⟨trivial, by kernel_rfl, by kernel_rfl, by simp [AV.low, AV.lows, AObj.low], by simp [AV.low, AV.lows, AObj.low]⟩

theorem F36_all (K0 : Nat) : (∀ (v1 : (List T69)) (v2 : Int) (r1 : Int), F36 K0 v1 v2 = some (r1) → Fn prog 36 [(.sl (l69 v1)), (.int .i64 v2)] [] (.int .i64 r1) []) := by
  induction K0 using Nat.strongRecOn with
  | ind K0 ih => exact F36_step K0 (fun k hk => (ih k hk))

theorem F36_ok (K0 : Nat) : ∀ (v1 : (List T69)) (v2 : Int) (r1 : Int), F36 K0 v1 v2 = some (r1) → Fn prog 36 [(.sl (l69 v1)), (.int .i64 v2)] [] (.int .i64 r1) [] := (F36_all K0)

mutual
def F10_j1 : Nat → (List T34) → Int → Int → Bool → Option (Bool)
  | 0, _, _, _, _ => none
  | k4 + 1, v3, v6, v7, v8 =>
    (bif v8 then
      ((idx v3 v7).bind fun ⟨v9, v10, v11⟩ =>
        ((F36 k4 v10 800).bind fun v12 =>
          F10_l0 k4 v3 (IntKind.wrap .i64 (v6 + v12)) (IntKind.wrap .i64 (v7 + 1))))
    else
      (bif (decide (v6 ≤ 800)) then
        some ((decide (((l34 v3).length : Int) ≤ 20)))
      else
        some (false)))
def F10_l0 : Nat → (List T34) → Int → Int → Option (Bool)
  | 0, _, _, _ => none
  | k1 + 1, v3, v4, v5 =>
    (bif (decide (v5 < ((l34 v3).length : Int))) then
      F10_j1 k1 v3 v4 v5 (decide (v5 < 20))
    else
      F10_j1 k1 v3 v4 v5 false)
end

def F10 (k : Nat) (v1 : Int) (v2 : (List T76)) (v3 : (List T34)) : Option (Bool) :=
  F10_l0 k v3 ((l76 v2).length : Int) 0

theorem F10_ok (k : Nat) : ∀ (v1 : Int) (v2 : (List T76)) (v3 : (List T34)) (r1 : Bool), F10 k v1 v2 v3 = some (r1) → Fn prog 10 [(.agg [(.int .i64 v1), (.sl (l76 v2)), (.sl (l34 v3))])] [] (.bool r1) [] := by
  intro v1 v2 v3 r1 h
  rw [F10] at h
  refine Fn_bodyK hT Go.Proofs.Try.func10 (c := Go.Proofs.Try.f10.body.getD .skip) (by kernel_rfl) (by kernel_rfl) (by kernel_rfl) ?_
  refine AW_seq ?_
  refine AW_reg ?_
  refine AR_many hT 2 [1] [(1, (.ptr 0 0))] [.cells [(.int .i64 v1), (.sl (l76 v2)), (.sl (l34 v3))]] (by kernel_rfl) ?_
  refine AR_fin (by kernel_rfl) ?_
  refine AE_seqN ?_
  refine AW_seq ?_
  refine AW_reg ?_
  refine AR_many hT 4 [1, 3] [(1, (.ptr 0 0)), (3, (.int .i64 ((l76 v2).length : Int)))] [.cells [(.int .i64 v1), (.sl (l76 v2)), (.sl (l34 v3))]] (by kernel_rfl) ?_
  refine AR_fin (by kernel_rfl) ?_
  refine AE_seqN ?_
  refine AW_seq ?_
  refine AW_seq ?_
  refine AW_reg ?_
  refine AR_many hT 1 [1, 3, 4] [(1, (.ptr 0 0)), (3, (.int .i64 ((l76 v2).length : Int))), (4, (.int .i64 0))] [.cells [(.int .i64 v1), (.sl (l76 v2)), (.sl (l34 v3))]] (by kernel_rfl) ?_
  refine AR_fin (by kernel_rfl) ?_
  refine AE_seqN ?_
  refine AW_block ?_
  refine AW_keep [1, 3, 4] (env' := [(1, (.ptr 0 0)), (3, (.int .i64 ((l76 v2).length : Int))), (4, (.int .i64 0))]) (by kernel_rfl) ?_
  refine AW_loop (fun n env L => n ≤ k ∧ ∃ (v4 : Int) (v5 : Int), env = [(1, (.ptr 0 0)), (3, (.int .i64 v4)), (4, (.int .i64 v5))] ∧ L = [.cells [(.int .i64 v1), (.sl (l76 v2)), (.sl (l34 v3))]] ∧ F10_l0 n v3 v4 v5 = some (r1)) k ⟨Nat.le_refl _, ((l76 v2).length : Int), 0, rfl, rfl, h⟩ ?_
  rintro n _ _ ⟨hn, v4, v5, rfl, rfl, h⟩
  cases n with
  | zero => rw [F10_l0] at h; cases h
  | succ k1 =>
    rw [F10_l0] at h
    refine AW_seq ?_
    refine AW_join (fun env L => ∃ (v6 : Int) (v7 : Int) (v8 : Bool), env = [(1, (.ptr 0 0)), (3, (.int .i64 v6)), (4, (.int .i64 v7)), (16, (.bool v8))] ∧ L = [.cells [(.int .i64 v1), (.sl (l76 v2)), (.sl (l34 v3))]] ∧ ∃ n, n ≤ k1 ∧ F10_j1 n v3 v6 v7 v8 = some (r1)) ?_ ?_
    · rcases Bool.eq_false_or_eq_true (decide (v5 < ((l34 v3).length : Int))) with h3 | h3
      · replace h := bifT h3 h
        refine AW_reg ?_
        refine AR_many hT 5 [1, 3, 4, 12] [(1, (.ptr 0 0)), (3, (.int .i64 v4)), (4, (.int .i64 v5)), (12, (.bool (decide (v5 < ((l34 v3).length : Int)))))] [.cells [(.int .i64 v1), (.sl (l76 v2)), (.sl (l34 v3))]] (by kernel_rfl) ?_
        refine AR_op (by kernel_rfl) (OpJ_boolK hT (q := (decide (v5 < ((l34 v3).length : Int)))) (by kernel_rfl) h3) ?_
        refine AR_many hT 3 [1, 3, 4, 16] [(1, (.ptr 0 0)), (3, (.int .i64 v4)), (4, (.int .i64 v5)), (16, (.bool (decide (v5 < 20))))] [.cells [(.int .i64 v1), (.sl (l76 v2)), (.sl (l34 v3))]] (by kernel_rfl) ?_
        refine AR_fin (by kernel_rfl) ?_
        refine AE_keep [1, 3, 4, 16] (env' := [(1, (.ptr 0 0)), (3, (.int .i64 v4)), (4, (.int .i64 v5)), (16, (.bool (decide (v5 < 20))))]) (by kernel_rfl) ?_
        exact AE_done ⟨v4, v5, (decide (v5 < 20)), rfl, rfl, k1, Nat.le_refl _, h⟩
      · replace h := bifF h3 h
        refine AW_reg ?_
        refine AR_many hT 5 [1, 3, 4, 12] [(1, (.ptr 0 0)), (3, (.int .i64 v4)), (4, (.int .i64 v5)), (12, (.bool (decide (v5 < ((l34 v3).length : Int)))))] [.cells [(.int .i64 v1), (.sl (l76 v2)), (.sl (l34 v3))]] (by kernel_rfl) ?_
        refine AR_op (by kernel_rfl) (OpJ_boolK hT (q := (decide (v5 < ((l34 v3).length : Int)))) (by kernel_rfl) h3) ?_
        refine AR_many hT 3 [1, 3, 4, 16] [(1, (.ptr 0 0)), (3, (.int .i64 v4)), (4, (.int .i64 v5)), (16, (.bool false))] [.cells [(.int .i64 v1), (.sl (l76 v2)), (.sl (l34 v3))]] (by kernel_rfl) ?_
        refine AR_fin (by kernel_rfl) ?_
        refine AE_keep [1, 3, 4, 16] (env' := [(1, (.ptr 0 0)), (3, (.int .i64 v4)), (4, (.int .i64 v5)), (16, (.bool false))]) (by kernel_rfl) ?_
        exact AE_done ⟨v4, v5, false, rfl, rfl, k1, Nat.le_refl _, h⟩
    · rintro _ _ ⟨v6, v7, v8, rfl, rfl, n, hn, h⟩
      obtain _ | k4 := n
      · rw [F10_j1] at h; cases h
      rw [F10_j1] at h
      rcases Bool.eq_false_or_eq_true v8 with h6 | h6
      · replace h := bifT h6 h
        refine AW_ifT (q := v8) (by kernel_rfl) h6 ?_
        refine AE_skip ?_
        refine AE_seqN ?_
        refine AW_seq ?_
        refine AW_block ?_
        obtain ⟨⟨v9, v10, v11⟩, h7, h⟩ := Option.bind_eq_some_iff.mp h
        try dsimp only at h
        obtain ⟨v12, h8, h⟩ := Option.bind_eq_some_iff.mp h
        try dsimp only at h
        refine AW_reg ?_
        refine AR_many hT 4 [1, 3, 4, 19, 21, 22] [(1, (.ptr 0 0)), (3, (.int .i64 v6)), (4, (.int .i64 v7)), (19, (.int .i64 v6)), (21, (.sl (l34 v3))), (22, (.int .i64 v7))] [.cells [(.int .i64 v1), (.sl (l76 v2)), (.sl (l34 v3))]] (by kernel_rfl) ?_
        refine AR_op (by kernel_rfl) (OpJ_indexK hT (xs := l34 v3) (j := v7) (n := 3) (by kernel_rfl) (i34 h7) (by kernel_rfl)) ?_
        refine AR_many hT 2 [1, 3, 4, 19, 25] [(1, (.ptr 0 0)), (3, (.int .i64 v6)), (4, (.int .i64 v7)), (19, (.int .i64 v6)), (25, (.sl (l69 v10)))] [.cells [(.int .i64 v1), (.sl (l76 v2)), (.sl (l34 v3))]] (by kernel_rfl) ?_
        refine AR_op (by kernel_rfl) (OpJ_callK (g := 36) (args := [(.sl (l69 v10)), (.int .i64 800)]) (by kernel_rfl) Go.Proofs.Try.func36 (by kernel_rfl) (by kernel_rfl) (Fn_pure (F36_ok k4 v10 800 v12 h8) (by simp [AV.low, AV.lows, AObj.low]) (by simp [AV.low, AV.lows, AObj.low]))) ?_
        refine AR_many hT 2 [1, 3, 4] [(1, (.ptr 0 0)), (3, (.int .i64 (IntKind.wrap .i64 (v6 + v12)))), (4, (.int .i64 v7))] [.cells [(.int .i64 v1), (.sl (l76 v2)), (.sl (l34 v3))]] (by kernel_rfl) ?_
        refine AR_fin (by kernel_rfl) ?_
        refine AE_blkN ?_
        refine AE_seqN ?_
        refine AW_reg ?_
        refine AR_many hT 3 [1, 3, 4] [(1, (.ptr 0 0)), (3, (.int .i64 (IntKind.wrap .i64 (v6 + v12)))), (4, (.int .i64 (IntKind.wrap .i64 (v7 + 1))))] [.cells [(.int .i64 v1), (.sl (l76 v2)), (.sl (l34 v3))]] (by kernel_rfl) ?_
        refine AR_fin (by kernel_rfl) ?_
        refine AE_keep [1, 3, 4] (env' := [(1, (.ptr 0 0)), (3, (.int .i64 (IntKind.wrap .i64 (v6 + v12)))), (4, (.int .i64 (IntKind.wrap .i64 (v7 + 1))))]) (by kernel_rfl) ?_
        exact AE_done ⟨k4, by omega, by omega, (IntKind.wrap .i64 (v6 + v12)), (IntKind.wrap .i64 (v7 + 1)), rfl, rfl, h⟩
      · replace h := bifF h6 h
        refine AW_ifF (q := v8) (by kernel_rfl) h6 ?_
        refine AE_exit ?_
        refine AE_seqX ?_
        refine AE_seqX ?_
        refine AE_blkH ?_
        refine AE_seqN ?_
        refine AW_seq ?_
        rcases Bool.eq_false_or_eq_true (decide (v6 ≤ 800)) with h9 | h9
        · replace h := bifT h9 h
          refine AW_reg ?_
          refine AR_many hT 2 [1, 29] [(1, (.ptr 0 0)), (29, (.bool (decide (v6 ≤ 800))))] [.cells [(.int .i64 v1), (.sl (l76 v2)), (.sl (l34 v3))]] (by kernel_rfl) ?_
          refine AR_op (by kernel_rfl) (OpJ_boolK hT (q := (decide (v6 ≤ 800))) (by kernel_rfl) h9) ?_
          refine AR_many hT 6 [2] [(2, (.bool (decide (((l34 v3).length : Int) ≤ 20))))] [.cells [(.int .i64 v1), (.sl (l76 v2)), (.sl (l34 v3))]] (by kernel_rfl) ?_
          refine AR_fin (by kernel_rfl) ?_
          refine AE_seqN ?_
          refine AE_ret ?_
          refine AE_keep [2] (env' := [(2, (.bool (decide (((l34 v3).length : Int) ≤ 20))))]) (by kernel_rfl) ?_
          simp only [Option.some.injEq] at h
          subst h
          exact AE_done ⟨trivial, by kernel_rfl, by kernel_rfl, by simp [AV.low, AV.lows, AObj.low], by simp [AV.low, AV.lows, AObj.low]⟩
        · replace h := bifF h9 h
          refine AW_reg ?_
          refine AR_many hT 2 [1, 29] [(1, (.ptr 0 0)), (29, (.bool (decide (v6 ≤ 800))))] [.cells [(.int .i64 v1), (.sl (l76 v2)), (.sl (l34 v3))]] (by kernel_rfl) ?_
          refine AR_op (by kernel_rfl) (OpJ_boolK hT (q := (decide (v6 ≤ 800))) (by kernel_rfl) h9) ?_
          refine AR_many hT 6 [2] [(2, (.bool false))] [.cells [(.int .i64 v1), (.sl (l76 v2)), (.sl (l34 v3))]] (by kernel_rfl) ?_
          refine AR_fin (by kernel_rfl) ?_
          refine AE_seqN ?_
          refine AE_ret ?_
          refine AE_keep [2] (env' := [(2, (.bool false))]) (by kernel_rfl) ?_
          simp only [Option.some.injEq] at h
          subst h
          exact AE_done ⟨trivial, by kernel_rfl, by kernel_rfl, by simp [AV.low, AV.lows, AObj.low], by simp [AV.low, AV.lows, AObj.low]⟩

def F116 (k : Nat) (v1 : Int) : Option (Bool) :=
  (bif (decide (v1 ≥ 97)) then
    some ((decide (v1 ≤ 122)))
  else
    some (false))

theorem F116_ok (k : Nat) : ∀ (v1 : Int) (r1 : Bool), F116 k v1 = some (r1) → Fn prog 116 [(.int .u8 v1)] [] (.bool r1) [] := by
  intro v1 r1 h
  rw [F116] at h
  refine Fn_bodyK hT Go.Proofs.Try.func116 (c := Go.Proofs.Try.f116.body.getD .skip) (by kernel_rfl) (by kernel_rfl) (by kernel_rfl) ?_
  refine AW_seq ?_
  refine AW_reg ?_
  refine AR_many hT 1 [0] [(0, (.int .u8 v1))] [] (by kernel_rfl) ?_
  refine AR_fin (by kernel_rfl) ?_
  refine AE_seqN ?_
  refine AW_seq ?_
  rcases Bool.eq_false_or_eq_true (decide (v1 ≥ 97)) with h1 | h1
  · replace h := bifT h1 h
    refine AW_reg ?_
    refine AR_many hT 2 [0, 4] [(0, (.int .u8 v1)), (4, (.bool (decide (v1 ≥ 97))))] [] (by kernel_rfl) ?_
    refine AR_op (by kernel_rfl) (OpJ_boolK hT (q := (decide (v1 ≥ 97))) (by kernel_rfl) h1) ?_
    refine AR_many hT 4 [2] [(2, (.bool (decide (v1 ≤ 122))))] [] (by kernel_rfl) ?_
    refine AR_fin (by kernel_rfl) ?_
    refine AE_seqN ?_
    refine AE_ret ?_
    refine AE_keep [2] (env' := [(2, (.bool (decide (v1 ≤ 122))))]) (by kernel_rfl) ?_
    simp only [Option.some.injEq] at h
    subst h
    exact AE_done ⟨trivial, by kernel_rfl, by kernel_rfl, by simp [AV.low, AV.lows, AObj.low], by simp [AV.low, AV.lows, AObj.low]⟩
  · replace h := bifF h1 h
    refine AW_reg ?_
    refine AR_many hT 2 [0, 4] [(0, (.int .u8 v1)), (4, (.bool (decide (v1 ≥ 97))))] [] (by kernel_rfl) ?_
    refine AR_op (by kernel_rfl) (OpJ_boolK hT (q := (decide (v1 ≥ 97))) (by kernel_rfl) h1) ?_
    refine AR_many hT 4 [2] [(2, (.bool false))] [] (by kernel_rfl) ?_
    refine AR_fin (by kernel_rfl) ?_
    refine AE_seqN ?_
    refine AE_ret ?_
    refine AE_keep [2] (env' := [(2, (.bool false))]) (by kernel_rfl) ?_
    simp only [Option.some.injEq] at h
    subst h
    exact AE_done ⟨trivial, by kernel_rfl, by kernel_rfl, by simp [AV.low, AV.lows, AObj.low], by simp [AV.low, AV.lows, AObj.low]⟩

def F128 (k : Nat) (v1 : Int) : Option (Bool) :=
  (bif (decide (v1 ≥ 48)) then
    some ((decide (v1 ≤ 57)))
  else
    some (false))

theorem F128_ok (k : Nat) : ∀ (v1 : Int) (r1 : Bool), F128 k v1 = some (r1) → Fn prog 128 [(.int .u8 v1)] [] (.bool r1) [] := by
  intro v1 r1 h
  rw [F128] at h
  refine Fn_bodyK hT Go.Proofs.Try.func128 (c := Go.Proofs.Try.f128.body.getD .skip) (by kernel_rfl) (by kernel_rfl) (by kernel_rfl) ?_
  refine AW_seq ?_
  refine AW_reg ?_
  refine AR_many hT 1 [0] [(0, (.int .u8 v1))] [] (by kernel_rfl) ?_
  refine AR_fin (by kernel_rfl) ?_
  refine AE_seqN ?_
  refine AW_seq ?_
  rcases Bool.eq_false_or_eq_true (decide (v1 ≥ 48)) with h1 | h1
  · replace h := bifT h1 h
    refine AW_reg ?_
    refine AR_many hT 2 [0, 4] [(0, (.int .u8 v1)), (4, (.bool (decide (v1 ≥ 48))))] [] (by kernel_rfl) ?_
    refine AR_op (by kernel_rfl) (OpJ_boolK hT (q := (decide (v1 ≥ 48))) (by kernel_rfl) h1) ?_
    refine AR_many hT 4 [2] [(2, (.bool (decide (v1 ≤ 57))))] [] (by kernel_rfl) ?_
    refine AR_fin (by kernel_rfl) ?_
    refine AE_seqN ?_
    refine AE_ret ?_
    refine AE_keep [2] (env' := [(2, (.bool (decide (v1 ≤ 57))))]) (by kernel_rfl) ?_
    simp only [Option.some.injEq] at h
    subst h
    exact AE_done ⟨trivial, by kernel_rfl, by kernel_rfl, by simp [AV.low, AV.lows, AObj.low], by simp [AV.low, AV.lows, AObj.low]⟩
  · replace h := bifF h1 h
    refine AW_reg ?_
    refine AR_many hT 2 [0, 4] [(0, (.int .u8 v1)), (4, (.bool (decide (v1 ≥ 48))))] [] (by kernel_rfl) ?_
    refine AR_op (by kernel_rfl) (OpJ_boolK hT (q := (decide (v1 ≥ 48))) (by kernel_rfl) h1) ?_
    refine AR_many hT 4 [2] [(2, (.bool false))] [] (by kernel_rfl) ?_
    refine AR_fin (by kernel_rfl) ?_
    refine AE_seqN ?_
    refine AE_ret ?_
    refine AE_keep [2] (env' := [(2, (.bool false))]) (by kernel_rfl) ?_
    simp only [Option.some.injEq] at h
    subst h
    exact AE_done ⟨trivial, by kernel_rfl, by kernel_rfl, by simp [AV.low, AV.lows, AObj.low], by simp [AV.low, AV.lows, AObj.low]⟩

mutual
def F117_j1 : Nat → (List Int) → Int → Bool → Option (Int)
  | 0, _, _, _ => none
  | k9 + 1, v1, v4, v5 =>
    (bif v5 then
      F117_l0 k9 v1 (IntKind.wrap .i64 (v4 + 1))
    else
      some (v4))
def F117_l0 : Nat → (List Int) → Int → Option (Int)
  | 0, _, _ => none
  | k1 + 1, v1, v3 =>
    (bif (decide (v3 < ((l5 v1).length : Int))) then
      ((idx v1 v3).bind fun v6 =>
        ((F116 k1 v6).bind fun v7 =>
          (bif v7 then
            F117_j1 k1 v1 v3 true
          else
            ((idx v1 v3).bind fun v8 =>
              ((F128 k1 v8).bind fun v9 =>
                F117_j1 k1 v1 v3 v9)))))
    else
      F117_j1 k1 v1 v3 false)
end

def F117 (k : Nat) (v1 : (List Int)) (v2 : Int) : Option (Int) :=
  F117_l0 k v1 v2

theorem F117_ok (k : Nat) : ∀ (v1 : (List Int)) (v2 : Int) (r1 : Int), F117 k v1 v2 = some (r1) → Fn prog 117 [(.sl (l5 v1)), (.int .i64 v2)] [] (.int .i64 r1) [] := by
  intro v1 v2 r1 h
  rw [F117] at h
  refine Fn_bodyK hT Go.Proofs.Try.func117 (c := Go.Proofs.Try.f117.body.getD .skip) (by kernel_rfl) (by kernel_rfl) (by kernel_rfl) ?_
  refine AW_seq ?_
  refine AW_reg ?_
  refine AR_many hT 1 [0, 1] [(0, (.sl (l5 v1))), (1, (.int .i64 v2))] [] (by kernel_rfl) ?_
  refine AR_fin (by kernel_rfl) ?_
  refine AE_seqN ?_
  refine AW_seq ?_
  refine AW_block ?_
  refine AW_keep [0, 1] (env' := [(0, (.sl (l5 v1))), (1, (.int .i64 v2))]) (by kernel_rfl) ?_
  refine AW_loop (fun n env L => n ≤ k ∧ ∃ (v3 : Int), env = [(0, (.sl (l5 v1))), (1, (.int .i64 v3))] ∧ L = [] ∧ F117_l0 n v1 v3 = some (r1)) k ⟨Nat.le_refl _, v2, rfl, rfl, h⟩ ?_
  rintro n _ _ ⟨hn, v3, rfl, rfl, h⟩
  cases n with
  | zero => rw [F117_l0] at h; cases h
  | succ k1 =>
    rw [F117_l0] at h
    refine AW_seq ?_
    refine AW_join (fun env L => ∃ (v4 : Int) (v5 : Bool), env = [(0, (.sl (l5 v1))), (1, (.int .i64 v4)), (22, (.bool v5))] ∧ L = [] ∧ ∃ n, n ≤ k1 ∧ F117_j1 n v1 v4 v5 = some (r1)) ?_ ?_
    · rcases Bool.eq_false_or_eq_true (decide (v3 < ((l5 v1).length : Int))) with h3 | h3
      · replace h := bifT h3 h
        obtain ⟨v6, h4, h⟩ := Option.bind_eq_some_iff.mp h
        try dsimp only at h
        obtain ⟨v7, h5, h⟩ := Option.bind_eq_some_iff.mp h
        try dsimp only at h
        rcases Bool.eq_false_or_eq_true v7 with h6 | h6
        · replace h := bifT h6 h
          refine AW_reg ?_
          refine AR_many hT 4 [0, 1, 8] [(0, (.sl (l5 v1))), (1, (.int .i64 v3)), (8, (.bool (decide (v3 < ((l5 v1).length : Int)))))] [] (by kernel_rfl) ?_
          refine AR_op (by kernel_rfl) (OpJ_boolK hT (q := (decide (v3 < ((l5 v1).length : Int)))) (by kernel_rfl) h3) ?_
          refine AR_many hT 2 [0, 1, 9, 10, 11] [(0, (.sl (l5 v1))), (1, (.int .i64 v3)), (9, (.bool true)), (10, (.sl (l5 v1))), (11, (.int .i64 v3))] [] (by kernel_rfl) ?_
          refine AR_op (by kernel_rfl) (OpJ_indexK hT (xs := l5 v1) (j := v3) (n := 1) (by kernel_rfl) (i5 h4) (by kernel_rfl)) ?_
          refine AR_many hT 1 [0, 1, 9, 13] [(0, (.sl (l5 v1))), (1, (.int .i64 v3)), (9, (.bool true)), (13, (.int .u8 v6))] [] (by kernel_rfl) ?_
          refine AR_op (by kernel_rfl) (OpJ_callK (g := 116) (args := [(.int .u8 v6)]) (by kernel_rfl) Go.Proofs.Try.func116 (by kernel_rfl) (by kernel_rfl) (Fn_pure (F116_ok k1 v6 v7 h5) (by simp [AV.low, AV.lows, AObj.low]) (by simp [AV.low, AV.lows, AObj.low]))) ?_
          refine AR_op (by kernel_rfl) (OpJ_boolK hT (q := v7) (by kernel_rfl) h6) ?_
          refine AR_many hT 7 [0, 1, 22] [(0, (.sl (l5 v1))), (1, (.int .i64 v3)), (22, (.bool true))] [] (by kernel_rfl) ?_
          refine AR_fin (by kernel_rfl) ?_
          refine AE_keep [0, 1, 22] (env' := [(0, (.sl (l5 v1))), (1, (.int .i64 v3)), (22, (.bool true))]) (by kernel_rfl) ?_
          exact AE_done ⟨v3, true, rfl, rfl, k1, Nat.le_refl _, h⟩
        · replace h := bifF h6 h
          obtain ⟨v8, h7, h⟩ := Option.bind_eq_some_iff.mp h
          try dsimp only at h
          obtain ⟨v9, h8, h⟩ := Option.bind_eq_some_iff.mp h
          try dsimp only at h
          refine AW_reg ?_
          refine AR_many hT 4 [0, 1, 8] [(0, (.sl (l5 v1))), (1, (.int .i64 v3)), (8, (.bool (decide (v3 < ((l5 v1).length : Int)))))] [] (by kernel_rfl) ?_
          refine AR_op (by kernel_rfl) (OpJ_boolK hT (q := (decide (v3 < ((l5 v1).length : Int)))) (by kernel_rfl) h3) ?_
          refine AR_many hT 2 [0, 1, 9, 10, 11] [(0, (.sl (l5 v1))), (1, (.int .i64 v3)), (9, (.bool true)), (10, (.sl (l5 v1))), (11, (.int .i64 v3))] [] (by kernel_rfl) ?_
          refine AR_op (by kernel_rfl) (OpJ_indexK hT (xs := l5 v1) (j := v3) (n := 1) (by kernel_rfl) (i5 h4) (by kernel_rfl)) ?_
          refine AR_many hT 1 [0, 1, 9, 13] [(0, (.sl (l5 v1))), (1, (.int .i64 v3)), (9, (.bool true)), (13, (.int .u8 v6))] [] (by kernel_rfl) ?_
          refine AR_op (by kernel_rfl) (OpJ_callK (g := 116) (args := [(.int .u8 v6)]) (by kernel_rfl) Go.Proofs.Try.func116 (by kernel_rfl) (by kernel_rfl) (Fn_pure (F116_ok k1 v6 v7 h5) (by simp [AV.low, AV.lows, AObj.low]) (by simp [AV.low, AV.lows, AObj.low]))) ?_
          refine AR_op (by kernel_rfl) (OpJ_boolK hT (q := v7) (by kernel_rfl) h6) ?_
          refine AR_many hT 2 [0, 1, 9, 15, 16, 17] [(0, (.sl (l5 v1))), (1, (.int .i64 v3)), (9, (.bool true)), (15, (.bool false)), (16, (.sl (l5 v1))), (17, (.int .i64 v3))] [] (by kernel_rfl) ?_
          refine AR_op (by kernel_rfl) (OpJ_indexK hT (xs := l5 v1) (j := v3) (n := 1) (by kernel_rfl) (i5 h7) (by kernel_rfl)) ?_
          refine AR_many hT 1 [0, 1, 9, 15, 19] [(0, (.sl (l5 v1))), (1, (.int .i64 v3)), (9, (.bool true)), (15, (.bool false)), (19, (.int .u8 v8))] [] (by kernel_rfl) ?_
          refine AR_op (by kernel_rfl) (OpJ_callK (g := 128) (args := [(.int .u8 v8)]) (by kernel_rfl) Go.Proofs.Try.func128 (by kernel_rfl) (by kernel_rfl) (Fn_pure (F128_ok k1 v8 v9 h8) (by simp [AV.low, AV.lows, AObj.low]) (by simp [AV.low, AV.lows, AObj.low]))) ?_
          refine AR_many hT 2 [0, 1, 22] [(0, (.sl (l5 v1))), (1, (.int .i64 v3)), (22, (.bool v9))] [] (by kernel_rfl) ?_
          refine AR_fin (by kernel_rfl) ?_
          refine AE_keep [0, 1, 22] (env' := [(0, (.sl (l5 v1))), (1, (.int .i64 v3)), (22, (.bool v9))]) (by kernel_rfl) ?_
          exact AE_done ⟨v3, v9, rfl, rfl, k1, Nat.le_refl _, h⟩
      · replace h := bifF h3 h
        refine AW_reg ?_
        refine AR_many hT 4 [0, 1, 8] [(0, (.sl (l5 v1))), (1, (.int .i64 v3)), (8, (.bool (decide (v3 < ((l5 v1).length : Int)))))] [] (by kernel_rfl) ?_
        refine AR_op (by kernel_rfl) (OpJ_boolK hT (q := (decide (v3 < ((l5 v1).length : Int)))) (by kernel_rfl) h3) ?_
        refine AR_many hT 13 [0, 1, 22] [(0, (.sl (l5 v1))), (1, (.int .i64 v3)), (22, (.bool false))] [] (by kernel_rfl) ?_
        refine AR_fin (by kernel_rfl) ?_
        refine AE_keep [0, 1, 22] (env' := [(0, (.sl (l5 v1))), (1, (.int .i64 v3)), (22, (.bool false))]) (by kernel_rfl) ?_
        exact AE_done ⟨v3, false, rfl, rfl, k1, Nat.le_refl _, h⟩
    · rintro _ _ ⟨v4, v5, rfl, rfl, n, hn, h⟩
      obtain _ | k9 := n
      · rw [F117_j1] at h; cases h
      rw [F117_j1] at h
      rcases Bool.eq_false_or_eq_true v5 with h11 | h11
      · replace h := bifT h11 h
        refine AW_ifT (q := v5) (by kernel_rfl) h11 ?_
        refine AE_skip ?_
        refine AE_seqN ?_
        refine AW_block ?_
        refine AW_reg ?_
        refine AR_many hT 3 [0, 1] [(0, (.sl (l5 v1))), (1, (.int .i64 (IntKind.wrap .i64 (v4 + 1))))] [] (by kernel_rfl) ?_
        refine AR_fin (by kernel_rfl) ?_
        refine AE_blkN ?_
        refine AE_keep [0, 1] (env' := [(0, (.sl (l5 v1))), (1, (.int .i64 (IntKind.wrap .i64 (v4 + 1))))]) (by kernel_rfl) ?_
        exact AE_done ⟨k9, by omega, by omega, (IntKind.wrap .i64 (v4 + 1)), rfl, rfl, h⟩
      · replace h := bifF h11 h
        refine AW_ifF (q := v5) (by kernel_rfl) h11 ?_
        refine AE_exit ?_
        refine AE_seqX ?_
        refine AE_seqX ?_
        refine AE_blkH ?_
        refine AE_seqN ?_
        refine AW_seq ?_
        refine AW_reg ?_
        refine AR_many hT 2 [4] [(4, (.int .i64 v4))] [] (by kernel_rfl) ?_
        refine AR_fin (by kernel_rfl) ?_
        refine AE_seqN ?_
        refine AE_ret ?_
        refine AE_keep [4] (env' := [(4, (.int .i64 v4))]) (by kernel_rfl) ?_
        simp only [Option.some.injEq] at h
        subst h
        exact AE_done ⟨trivial, by kernel_rfl, by kernel_rfl, by simp [AV.low, AV.lows, AObj.low], by simp [AV.low, AV.lows, AObj.low]⟩

def F146 (k : Nat) (v1 : ByteArray) (v2 : Int) : Option Int := some (Go.Lib.indexByte v1.data.toList v2.toNat.toUInt8)
theorem F146_ok (k : Nat) : ∀ (v1 : ByteArray) (v2 : Int) (r1 : Int), F146 k v1 v2 = some (r1) → Fn prog 146 [(.str v1), (.int .u8 v2)] [] (.int .i64 r1) [] := by
  intro v1 v2 r1 h
  rw [F146] at h
  simp only [Option.some.injEq] at h
  subst h
  exact Fn_lib (us := [.string v1, .int .u8 v2]) rfl rfl fun S _ => Go.Proofs.Try.strings_IndexByte v1 v2 S.w

def F147 (k : Nat) (v1 v2 : ByteArray) : Option Bool := if v1.size < 4294967281 then some (Go.Lib.contains v1.data.toList v2.data.toList) else none
theorem F147_ok (k : Nat) : ∀ (v1 v2 : ByteArray) (r1 : Bool), F147 k v1 v2 = some (r1) → Fn prog 147 [(.str v1), (.str v2)] [] (.bool r1) [] := by
  intro v1 v2 r1 h
  rw [F147] at h
  split at h
  · simp only [Option.some.injEq] at h
    subst h
    exact Fn_lib (us := [.string v1, .string v2]) rfl rfl fun S hI => by
      obtain ⟨m, hm⟩ := hI.gl.1
      exact Go.Proofs.Try.strings_Contains v1 v2 m S.w (by assumption) hm
  · cases h

def F118 (k : Nat) (v1 : ByteArray) : Option (Bool) :=
  (bif (!(v1.toList == (ByteArray.mk #[]).toList)) then
    ((F146 k v1 32).bind fun v2 =>
      (bif (decide (v2 < 0)) then
        ((catS (ByteArray.mk #[32]) v1).bind fun v3 =>
          ((catS v3 (ByteArray.mk #[32])).bind fun v4 =>
            ((F147 k str1 v4).bind fun v5 =>
              some (v5))))
      else
        some (false)))
  else
    some (false))

theorem F118_ok (k : Nat) : ∀ (v1 : ByteArray) (r1 : Bool), F118 k v1 = some (r1) → Fn prog 118 [(.str v1)] [] (.bool r1) [] := by
  intro v1 r1 h
  rw [F118] at h
  refine Fn_bodyK hT Go.Proofs.Try.func118 (c := Go.Proofs.Try.f118.body.getD .skip) (by kernel_rfl) (by kernel_rfl) (by kernel_rfl) ?_
  refine AW_seq ?_
  refine AW_reg ?_
  refine AR_many hT 1 [0] [(0, (.str v1))] [] (by kernel_rfl) ?_
  refine AR_fin (by kernel_rfl) ?_
  refine AE_seqN ?_
  refine AW_seq ?_
  rcases Bool.eq_false_or_eq_true (!(v1.toList == (ByteArray.mk #[]).toList)) with h1 | h1
  · replace h := bifT h1 h
    obtain ⟨v2, h2, h⟩ := Option.bind_eq_some_iff.mp h
    try dsimp only at h
    rcases Bool.eq_false_or_eq_true (decide (v2 < 0)) with h3 | h3
    · replace h := bifT h3 h
      obtain ⟨v3, h4, h⟩ := Option.bind_eq_some_iff.mp h
      try dsimp only at h
      obtain ⟨v4, h5, h⟩ := Option.bind_eq_some_iff.mp h
      try dsimp only at h
      obtain ⟨v5, h6, h⟩ := Option.bind_eq_some_iff.mp h
      try dsimp only at h
      refine AW_reg ?_
      refine AR_many hT 2 [0, 4] [(0, (.str v1)), (4, (.bool (!(v1.toList == (ByteArray.mk #[]).toList))))] [] (by kernel_rfl) ?_
      refine AR_op (by kernel_rfl) (OpJ_boolK hT (q := (!(v1.toList == (ByteArray.mk #[]).toList))) (by kernel_rfl) h1) ?_
      refine AR_many hT 1 [0, 5, 6] [(0, (.str v1)), (5, (.bool true)), (6, (.str v1))] [] (by kernel_rfl) ?_
      refine AR_op (by kernel_rfl) (OpJ_callK (g := 146) (args := [(.str v1), (.int .u8 32)]) (by kernel_rfl) Go.Proofs.Try.func146 (by kernel_rfl) (by kernel_rfl) (Fn_pure (F146_ok k v1 32 v2 h2) (by simp [AV.low, AV.lows, AObj.low]) (by simp [AV.low, AV.lows, AObj.low]))) ?_
      refine AR_many hT 2 [0, 9] [(0, (.str v1)), (9, (.bool (decide (v2 < 0))))] [] (by kernel_rfl) ?_
      refine AR_op (by kernel_rfl) (OpJ_boolK hT (q := (decide (v2 < 0))) (by kernel_rfl) h3) ?_
      refine AR_many hT 1 [10, 11] [(10, (.bool true)), (11, (.str v1))] [] (by kernel_rfl) ?_
      refine AR_op (by kernel_rfl) (OpJ_catK (a := (ByteArray.mk #[32])) (b := v1) (by kernel_rfl) h4) ?_
      refine AR_op (by kernel_rfl) (OpJ_catK (a := v3) (b := (ByteArray.mk #[32])) (by kernel_rfl) h5) ?_
      refine AR_op (by kernel_rfl) (OpJ_callK (g := 147) (args := [(.str str1), (.str v4)]) (by kernel_rfl) Go.Proofs.Try.func147 (by kernel_rfl) (by kernel_rfl) (Fn_pure (F147_ok k str1 v4 v5 h6) (by simp [AV.low, AV.lows, AObj.low]) (by simp [AV.low, AV.lows, AObj.low]))) ?_
      refine AR_many hT 2 [2] [(2, (.bool v5))] [] (by kernel_rfl) ?_
      refine AR_fin (by kernel_rfl) ?_
      refine AE_seqN ?_
      refine AE_ret ?_
      refine AE_keep [2] (env' := [(2, (.bool v5))]) (by kernel_rfl) ?_
      simp only [Option.some.injEq] at h
      subst h
      exact AE_done ⟨trivial, by kernel_rfl, by kernel_rfl, by simp [AV.low, AV.lows, AObj.low], by simp [AV.low, AV.lows, AObj.low]⟩
    · replace h := bifF h3 h
      refine AW_reg ?_
      refine AR_many hT 2 [0, 4] [(0, (.str v1)), (4, (.bool (!(v1.toList == (ByteArray.mk #[]).toList))))] [] (by kernel_rfl) ?_
      refine AR_op (by kernel_rfl) (OpJ_boolK hT (q := (!(v1.toList == (ByteArray.mk #[]).toList))) (by kernel_rfl) h1) ?_
      refine AR_many hT 1 [0, 5, 6] [(0, (.str v1)), (5, (.bool true)), (6, (.str v1))] [] (by kernel_rfl) ?_
      refine AR_op (by kernel_rfl) (OpJ_callK (g := 146) (args := [(.str v1), (.int .u8 32)]) (by kernel_rfl) Go.Proofs.Try.func146 (by kernel_rfl) (by kernel_rfl) (Fn_pure (F146_ok k v1 32 v2 h2) (by simp [AV.low, AV.lows, AObj.low]) (by simp [AV.low, AV.lows, AObj.low]))) ?_
      refine AR_many hT 2 [0, 9] [(0, (.str v1)), (9, (.bool (decide (v2 < 0))))] [] (by kernel_rfl) ?_
      refine AR_op (by kernel_rfl) (OpJ_boolK hT (q := (decide (v2 < 0))) (by kernel_rfl) h3) ?_
      refine AR_many hT 6 [2] [(2, (.bool false))] [] (by kernel_rfl) ?_
      refine AR_fin (by kernel_rfl) ?_
      refine AE_seqN ?_
      refine AE_ret ?_
      refine AE_keep [2] (env' := [(2, (.bool false))]) (by kernel_rfl) ?_
      simp only [Option.some.injEq] at h
      subst h
      exact AE_done ⟨trivial, by kernel_rfl, by kernel_rfl, by simp [AV.low, AV.lows, AObj.low], by simp [AV.low, AV.lows, AObj.low]⟩
  · replace h := bifF h1 h
    refine AW_reg ?_
    refine AR_many hT 2 [0, 4] [(0, (.str v1)), (4, (.bool (!(v1.toList == (ByteArray.mk #[]).toList))))] [] (by kernel_rfl) ?_
    refine AR_op (by kernel_rfl) (OpJ_boolK hT (q := (!(v1.toList == (ByteArray.mk #[]).toList))) (by kernel_rfl) h1) ?_
    refine AR_many hT 11 [2] [(2, (.bool false))] [] (by kernel_rfl) ?_
    refine AR_fin (by kernel_rfl) ?_
    refine AE_seqN ?_
    refine AE_ret ?_
    refine AE_keep [2] (env' := [(2, (.bool false))]) (by kernel_rfl) ?_
    simp only [Option.some.injEq] at h
    subst h
    exact AE_done ⟨trivial, by kernel_rfl, by kernel_rfl, by simp [AV.low, AV.lows, AObj.low], by simp [AV.low, AV.lows, AObj.low]⟩

def F75 (k : Nat) (v1 : ByteArray) : Option (Bool) :=
  (bif (!(v1.toList == (ByteArray.mk #[]).toList)) then
    (bif (decide ((v1.size : Int) ≤ 12)) then
      ((bidx v1 0).bind fun v2 =>
        ((F116 k v2).bind fun v3 =>
          (bif v3 then
            ((bytesP v1).bind fun v4 =>
              ((F117 k v4 0).bind fun v5 =>
                (bif (v5 == (v1.size : Int)) then
                  ((F118 k v1).bind fun v6 =>
                    some ((!v6)))
                else
                  some (false))))
          else
            some (false))))
    else
      some (false))
  else
    some (false))

theorem F75_ok (k : Nat) : ∀ (v1 : ByteArray) (r1 : Bool), F75 k v1 = some (r1) → Fn prog 75 [(.str v1)] [] (.bool r1) [] := by
  intro v1 r1 h
  rw [F75] at h
  refine Fn_bodyK hT Go.Proofs.Try.func75 (c := Go.Proofs.Try.f75.body.getD .skip) (by kernel_rfl) (by kernel_rfl) (by kernel_rfl) ?_
  refine AW_seq ?_
  refine AW_reg ?_
  refine AR_many hT 1 [0] [(0, (.str v1))] [] (by kernel_rfl) ?_
  refine AR_fin (by kernel_rfl) ?_
  refine AE_seqN ?_
  refine AW_seq ?_
  rcases Bool.eq_false_or_eq_true (!(v1.toList == (ByteArray.mk #[]).toList)) with h1 | h1
  · replace h := bifT h1 h
    rcases Bool.eq_false_or_eq_true (decide ((v1.size : Int) ≤ 12)) with h2 | h2
    · replace h := bifT h2 h
      obtain ⟨v2, h3, h⟩ := Option.bind_eq_some_iff.mp h
      try dsimp only at h
      obtain ⟨v3, h4, h⟩ := Option.bind_eq_some_iff.mp h
      try dsimp only at h
      rcases Bool.eq_false_or_eq_true v3 with h5 | h5
      · replace h := bifT h5 h
        obtain ⟨v4, h6, h⟩ := Option.bind_eq_some_iff.mp h
        try dsimp only at h
        obtain ⟨v5, h7, h⟩ := Option.bind_eq_some_iff.mp h
        try dsimp only at h
        rcases Bool.eq_false_or_eq_true (v5 == (v1.size : Int)) with h8 | h8
        · replace h := bifT h8 h
          obtain ⟨v6, h9, h⟩ := Option.bind_eq_some_iff.mp h
          try dsimp only at h
          refine AW_reg ?_
          refine AR_many hT 2 [0, 4] [(0, (.str v1)), (4, (.bool (!(v1.toList == (ByteArray.mk #[]).toList))))] [] (by kernel_rfl) ?_
          refine AR_op (by kernel_rfl) (OpJ_boolK hT (q := (!(v1.toList == (ByteArray.mk #[]).toList))) (by kernel_rfl) h1) ?_
          refine AR_many hT 4 [0, 9] [(0, (.str v1)), (9, (.bool (decide ((v1.size : Int) ≤ 12))))] [] (by kernel_rfl) ?_
          refine AR_op (by kernel_rfl) (OpJ_boolK hT (q := (decide ((v1.size : Int) ≤ 12))) (by kernel_rfl) h2) ?_
          refine AR_many hT 1 [0, 10, 11] [(0, (.str v1)), (10, (.bool true)), (11, (.str v1))] [] (by kernel_rfl) ?_
          refine AR_op (by kernel_rfl) (OpJ_byteK hT (s := v1) (j := 0) (by kernel_rfl) h3) ?_
          refine AR_op (by kernel_rfl) (OpJ_callK (g := 116) (args := [(.int .u8 v2)]) (by kernel_rfl) Go.Proofs.Try.func116 (by kernel_rfl) (by kernel_rfl) (Fn_pure (F116_ok k v2 v3 h4) (by simp [AV.low, AV.lows, AObj.low]) (by simp [AV.low, AV.lows, AObj.low]))) ?_
          refine AR_many hT 1 [0, 14] [(0, (.str v1)), (14, (.bool v3))] [] (by kernel_rfl) ?_
          refine AR_op (by kernel_rfl) (OpJ_boolK hT (q := v3) (by kernel_rfl) h5) ?_
          refine AR_many hT 1 [0, 15, 16] [(0, (.str v1)), (15, (.bool true)), (16, (.str v1))] [] (by kernel_rfl) ?_
          refine AR_op (by kernel_rfl) (OpJ_bytesE hT (s := v1) (lf := l5) (ef := e5) (by kernel_rfl) h6 l5_map (fun _ => rfl)) ?_
          refine AR_op (by kernel_rfl) (OpJ_callK (g := 117) (args := [(.sl (l5 v4)), (.int .i64 0)]) (by kernel_rfl) Go.Proofs.Try.func117 (by kernel_rfl) (by kernel_rfl) (Fn_pure (F117_ok k v4 0 v5 h7) (by simp [AV.low, AV.lows, AObj.low]) (by simp [AV.low, AV.lows, AObj.low]))) ?_
          refine AR_many hT 4 [0, 22] [(0, (.str v1)), (22, (.bool (v5 == (v1.size : Int))))] [] (by kernel_rfl) ?_
          refine AR_op (by kernel_rfl) (OpJ_boolK hT (q := (v5 == (v1.size : Int))) (by kernel_rfl) h8) ?_
          refine AR_many hT 1 [23, 24] [(23, (.bool true)), (24, (.str v1))] [] (by kernel_rfl) ?_
          refine AR_op (by kernel_rfl) (OpJ_callK (g := 118) (args := [(.str v1)]) (by kernel_rfl) Go.Proofs.Try.func118 (by kernel_rfl) (by kernel_rfl) (Fn_pure (F118_ok k v1 v6 h9) (by simp [AV.low, AV.lows, AObj.low]) (by simp [AV.low, AV.lows, AObj.low]))) ?_
          refine AR_many hT 3 [2] [(2, (.bool (!v6)))] [] (by kernel_rfl) ?_
          refine AR_fin (by kernel_rfl) ?_
          refine AE_seqN ?_
          refine AE_ret ?_
          refine AE_keep [2] (env' := [(2, (.bool (!v6)))]) (by kernel_rfl) ?_
          simp only [Option.some.injEq] at h
          subst h
          exact AE_done ⟨trivial, by kernel_rfl, by kernel_rfl, by simp [AV.low, AV.lows, AObj.low], by simp [AV.low, AV.lows, AObj.low]⟩
        · replace h := bifF h8 h
          refine AW_reg ?_
          refine AR_many hT 2 [0, 4] [(0, (.str v1)), (4, (.bool (!(v1.toList == (ByteArray.mk #[]).toList))))] [] (by kernel_rfl) ?_
          refine AR_op (by kernel_rfl) (OpJ_boolK hT (q := (!(v1.toList == (ByteArray.mk #[]).toList))) (by kernel_rfl) h1) ?_
          refine AR_many hT 4 [0, 9] [(0, (.str v1)), (9, (.bool (decide ((v1.size : Int) ≤ 12))))] [] (by kernel_rfl) ?_
          refine AR_op (by kernel_rfl) (OpJ_boolK hT (q := (decide ((v1.size : Int) ≤ 12))) (by kernel_rfl) h2) ?_
          refine AR_many hT 1 [0, 10, 11] [(0, (.str v1)), (10, (.bool true)), (11, (.str v1))] [] (by kernel_rfl) ?_
          refine AR_op (by kernel_rfl) (OpJ_byteK hT (s := v1) (j := 0) (by kernel_rfl) h3) ?_
          refine AR_op (by kernel_rfl) (OpJ_callK (g := 116) (args := [(.int .u8 v2)]) (by kernel_rfl) Go.Proofs.Try.func116 (by kernel_rfl) (by kernel_rfl) (Fn_pure (F116_ok k v2 v3 h4) (by simp [AV.low, AV.lows, AObj.low]) (by simp [AV.low, AV.lows, AObj.low]))) ?_
          refine AR_many hT 1 [0, 14] [(0, (.str v1)), (14, (.bool v3))] [] (by kernel_rfl) ?_
          refine AR_op (by kernel_rfl) (OpJ_boolK hT (q := v3) (by kernel_rfl) h5) ?_
          refine AR_many hT 1 [0, 15, 16] [(0, (.str v1)), (15, (.bool true)), (16, (.str v1))] [] (by kernel_rfl) ?_
          refine AR_op (by kernel_rfl) (OpJ_bytesE hT (s := v1) (lf := l5) (ef := e5) (by kernel_rfl) h6 l5_map (fun _ => rfl)) ?_
          refine AR_op (by kernel_rfl) (OpJ_callK (g := 117) (args := [(.sl (l5 v4)), (.int .i64 0)]) (by kernel_rfl) Go.Proofs.Try.func117 (by kernel_rfl) (by kernel_rfl) (Fn_pure (F117_ok k v4 0 v5 h7) (by simp [AV.low, AV.lows, AObj.low]) (by simp [AV.low, AV.lows, AObj.low]))) ?_
          refine AR_many hT 4 [0, 22] [(0, (.str v1)), (22, (.bool (v5 == (v1.size : Int))))] [] (by kernel_rfl) ?_
          refine AR_op (by kernel_rfl) (OpJ_boolK hT (q := (v5 == (v1.size : Int))) (by kernel_rfl) h8) ?_
          refine AR_many hT 5 [2] [(2, (.bool false))] [] (by kernel_rfl) ?_
          refine AR_fin (by kernel_rfl) ?_
          refine AE_seqN ?_
          refine AE_ret ?_
          refine AE_keep [2] (env' := [(2, (.bool false))]) (by kernel_rfl) ?_
          simp only [Option.some.injEq] at h
          subst h
          exact AE_done ⟨trivial, by kernel_rfl, by kernel_rfl, by simp [AV.low, AV.lows, AObj.low], by simp [AV.low, AV.lows, AObj.low]⟩
      · replace h := bifF h5 h
        refine AW_reg ?_
        refine AR_many hT 2 [0, 4] [(0, (.str v1)), (4, (.bool (!(v1.toList == (ByteArray.mk #[]).toList))))] [] (by kernel_rfl) ?_
        refine AR_op (by kernel_rfl) (OpJ_boolK hT (q := (!(v1.toList == (ByteArray.mk #[]).toList))) (by kernel_rfl) h1) ?_
        refine AR_many hT 4 [0, 9] [(0, (.str v1)), (9, (.bool (decide ((v1.size : Int) ≤ 12))))] [] (by kernel_rfl) ?_
        refine AR_op (by kernel_rfl) (OpJ_boolK hT (q := (decide ((v1.size : Int) ≤ 12))) (by kernel_rfl) h2) ?_
        refine AR_many hT 1 [0, 10, 11] [(0, (.str v1)), (10, (.bool true)), (11, (.str v1))] [] (by kernel_rfl) ?_
        refine AR_op (by kernel_rfl) (OpJ_byteK hT (s := v1) (j := 0) (by kernel_rfl) h3) ?_
        refine AR_op (by kernel_rfl) (OpJ_callK (g := 116) (args := [(.int .u8 v2)]) (by kernel_rfl) Go.Proofs.Try.func116 (by kernel_rfl) (by kernel_rfl) (Fn_pure (F116_ok k v2 v3 h4) (by simp [AV.low, AV.lows, AObj.low]) (by simp [AV.low, AV.lows, AObj.low]))) ?_
        refine AR_many hT 1 [0, 14] [(0, (.str v1)), (14, (.bool v3))] [] (by kernel_rfl) ?_
        refine AR_op (by kernel_rfl) (OpJ_boolK hT (q := v3) (by kernel_rfl) h5) ?_
        refine AR_many hT 13 [2] [(2, (.bool false))] [] (by kernel_rfl) ?_
        refine AR_fin (by kernel_rfl) ?_
        refine AE_seqN ?_
        refine AE_ret ?_
        refine AE_keep [2] (env' := [(2, (.bool false))]) (by kernel_rfl) ?_
        simp only [Option.some.injEq] at h
        subst h
        exact AE_done ⟨trivial, by kernel_rfl, by kernel_rfl, by simp [AV.low, AV.lows, AObj.low], by simp [AV.low, AV.lows, AObj.low]⟩
    · replace h := bifF h2 h
      refine AW_reg ?_
      refine AR_many hT 2 [0, 4] [(0, (.str v1)), (4, (.bool (!(v1.toList == (ByteArray.mk #[]).toList))))] [] (by kernel_rfl) ?_
      refine AR_op (by kernel_rfl) (OpJ_boolK hT (q := (!(v1.toList == (ByteArray.mk #[]).toList))) (by kernel_rfl) h1) ?_
      refine AR_many hT 4 [0, 9] [(0, (.str v1)), (9, (.bool (decide ((v1.size : Int) ≤ 12))))] [] (by kernel_rfl) ?_
      refine AR_op (by kernel_rfl) (OpJ_boolK hT (q := (decide ((v1.size : Int) ≤ 12))) (by kernel_rfl) h2) ?_
      refine AR_many hT 18 [2] [(2, (.bool false))] [] (by kernel_rfl) ?_
      refine AR_fin (by kernel_rfl) ?_
      refine AE_seqN ?_
      refine AE_ret ?_
      refine AE_keep [2] (env' := [(2, (.bool false))]) (by kernel_rfl) ?_
      simp only [Option.some.injEq] at h
      subst h
      exact AE_done ⟨trivial, by kernel_rfl, by kernel_rfl, by simp [AV.low, AV.lows, AObj.low], by simp [AV.low, AV.lows, AObj.low]⟩
  · replace h := bifF h1 h
    refine AW_reg ?_
    refine AR_many hT 2 [0, 4] [(0, (.str v1)), (4, (.bool (!(v1.toList == (ByteArray.mk #[]).toList))))] [] (by kernel_rfl) ?_
    refine AR_op (by kernel_rfl) (OpJ_boolK hT (q := (!(v1.toList == (ByteArray.mk #[]).toList))) (by kernel_rfl) h1) ?_
    refine AR_many hT 23 [2] [(2, (.bool false))] [] (by kernel_rfl) ?_
    refine AR_fin (by kernel_rfl) ?_
    refine AE_seqN ?_
    refine AE_ret ?_
    refine AE_keep [2] (env' := [(2, (.bool false))]) (by kernel_rfl) ?_
    simp only [Option.some.injEq] at h
    subst h
    exact AE_done ⟨trivial, by kernel_rfl, by kernel_rfl, by simp [AV.low, AV.lows, AObj.low], by simp [AV.low, AV.lows, AObj.low]⟩

def F74 (k : Nat) (v1 : Int) (v2 : ByteArray) (v3 : Int) (v4 : Int) : Option (Bool) :=
  (bif (decide (v1 ≥ 1)) then
    (bif (decide (v1 ≤ 4)) then
      ((F75 k v2).bind fun v5 =>
        (bif v5 then
          (bif (decide (v3 ≥ 0)) then
            (bif (decide (v3 ≤ 65535)) then
              (bif (v1 != 3) then
                some (true)
              else
                some ((v3 == 0)))
            else
              some (false))
          else
            some (false))
        else
          some (false)))
    else
      some (false))
  else
    some (false))

theorem F74_ok (k : Nat) : ∀ (v1 : Int) (v2 : ByteArray) (v3 : Int) (v4 : Int) (r1 : Bool), F74 k v1 v2 v3 v4 = some (r1) → Fn prog 74 [(.agg [(.int .i64 v1), (.str v2), (.int .i64 v3), (.int .i64 v4)])] [] (.bool r1) [] := by
  intro v1 v2 v3 v4 r1 h
  rw [F74] at h
  refine Fn_bodyK hT Go.Proofs.Try.func74 (c := Go.Proofs.Try.f74.body.getD .skip) (by kernel_rfl) (by kernel_rfl) (by kernel_rfl) ?_
  refine AW_seq ?_
  refine AW_reg ?_
  refine AR_many hT 2 [1] [(1, (.ptr 0 0))] [.cells [(.int .i64 v1), (.str v2), (.int .i64 v3), (.int .i64 v4)]] (by kernel_rfl) ?_
  refine AR_fin (by kernel_rfl) ?_
  refine AE_seqN ?_
  refine AW_seq ?_
  rcases Bool.eq_false_or_eq_true (decide (v1 ≥ 1)) with h1 | h1
  · replace h := bifT h1 h
    rcases Bool.eq_false_or_eq_true (decide (v1 ≤ 4)) with h2 | h2
    · replace h := bifT h2 h
      obtain ⟨v5, h3, h⟩ := Option.bind_eq_some_iff.mp h
      try dsimp only at h
      rcases Bool.eq_false_or_eq_true v5 with h4 | h4
      · replace h := bifT h4 h
        rcases Bool.eq_false_or_eq_true (decide (v3 ≥ 0)) with h5 | h5
        · replace h := bifT h5 h
          rcases Bool.eq_false_or_eq_true (decide (v3 ≤ 65535)) with h6 | h6
          · replace h := bifT h6 h
            rcases Bool.eq_false_or_eq_true (v1 != 3) with h7 | h7
            · replace h := bifT h7 h
              refine AW_reg ?_
              refine AR_many hT 3 [1, 5] [(1, (.ptr 0 0)), (5, (.bool (decide (v1 ≥ 1))))] [.cells [(.int .i64 v1), (.str v2), (.int .i64 v3), (.int .i64 v4)]] (by kernel_rfl) ?_
              refine AR_op (by kernel_rfl) (OpJ_boolK hT (q := (decide (v1 ≥ 1))) (by kernel_rfl) h1) ?_
              refine AR_many hT 4 [1, 10] [(1, (.ptr 0 0)), (10, (.bool (decide (v1 ≤ 4))))] [.cells [(.int .i64 v1), (.str v2), (.int .i64 v3), (.int .i64 v4)]] (by kernel_rfl) ?_
              refine AR_op (by kernel_rfl) (OpJ_boolK hT (q := (decide (v1 ≤ 4))) (by kernel_rfl) h2) ?_
              refine AR_many hT 2 [1, 11, 13] [(1, (.ptr 0 0)), (11, (.bool true)), (13, (.str v2))] [.cells [(.int .i64 v1), (.str v2), (.int .i64 v3), (.int .i64 v4)]] (by kernel_rfl) ?_
              refine AR_op (by kernel_rfl) (OpJ_callK (g := 75) (args := [(.str v2)]) (by kernel_rfl) Go.Proofs.Try.func75 (by kernel_rfl) (by kernel_rfl) (Fn_pure (F75_ok k v2 v5 h3) (by simp [AV.low, AV.lows, AObj.low]) (by simp [AV.low, AV.lows, AObj.low]))) ?_
              refine AR_many hT 1 [1, 15] [(1, (.ptr 0 0)), (15, (.bool v5))] [.cells [(.int .i64 v1), (.str v2), (.int .i64 v3), (.int .i64 v4)]] (by kernel_rfl) ?_
              refine AR_op (by kernel_rfl) (OpJ_boolK hT (q := v5) (by kernel_rfl) h4) ?_
              refine AR_many hT 4 [1, 20] [(1, (.ptr 0 0)), (20, (.bool (decide (v3 ≥ 0))))] [.cells [(.int .i64 v1), (.str v2), (.int .i64 v3), (.int .i64 v4)]] (by kernel_rfl) ?_
              refine AR_op (by kernel_rfl) (OpJ_boolK hT (q := (decide (v3 ≥ 0))) (by kernel_rfl) h5) ?_
              refine AR_many hT 4 [1, 25] [(1, (.ptr 0 0)), (25, (.bool (decide (v3 ≤ 65535))))] [.cells [(.int .i64 v1), (.str v2), (.int .i64 v3), (.int .i64 v4)]] (by kernel_rfl) ?_
              refine AR_op (by kernel_rfl) (OpJ_boolK hT (q := (decide (v3 ≤ 65535))) (by kernel_rfl) h6) ?_
              refine AR_many hT 3 [1, 26, 29] [(1, (.ptr 0 0)), (26, (.bool true)), (29, (.bool (v1 != 3)))] [.cells [(.int .i64 v1), (.str v2), (.int .i64 v3), (.int .i64 v4)]] (by kernel_rfl) ?_
              refine AR_op (by kernel_rfl) (OpJ_boolK hT (q := (v1 != 3)) (by kernel_rfl) h7) ?_
              refine AR_many hT 6 [2] [(2, (.bool true))] [.cells [(.int .i64 v1), (.str v2), (.int .i64 v3), (.int .i64 v4)]] (by kernel_rfl) ?_
              refine AR_fin (by kernel_rfl) ?_
              refine AE_seqN ?_
              refine AE_ret ?_
              refine AE_keep [2] (env' := [(2, (.bool true))]) (by kernel_rfl) ?_
              simp only [Option.some.injEq] at h
              subst h
              exact AE_done ⟨trivial, by kernel_rfl, by kernel_rfl, by simp [AV.low, AV.lows, AObj.low], by simp [AV.low, AV.lows, AObj.low]⟩
            · replace h := bifF h7 h
              refine AW_reg ?_
              refine AR_many hT 3 [1, 5] [(1, (.ptr 0 0)), (5, (.bool (decide (v1 ≥ 1))))] [.cells [(.int .i64 v1), (.str v2), (.int .i64 v3), (.int .i64 v4)]] (by kernel_rfl) ?_
              refine AR_op (by kernel_rfl) (OpJ_boolK hT (q := (decide (v1 ≥ 1))) (by kernel_rfl) h1) ?_
              refine AR_many hT 4 [1, 10] [(1, (.ptr 0 0)), (10, (.bool (decide (v1 ≤ 4))))] [.cells [(.int .i64 v1), (.str v2), (.int .i64 v3), (.int .i64 v4)]] (by kernel_rfl) ?_
              refine AR_op (by kernel_rfl) (OpJ_boolK hT (q := (decide (v1 ≤ 4))) (by kernel_rfl) h2) ?_
              refine AR_many hT 2 [1, 11, 13] [(1, (.ptr 0 0)), (11, (.bool true)), (13, (.str v2))] [.cells [(.int .i64 v1), (.str v2), (.int .i64 v3), (.int .i64 v4)]] (by kernel_rfl) ?_
              refine AR_op (by kernel_rfl) (OpJ_callK (g := 75) (args := [(.str v2)]) (by kernel_rfl) Go.Proofs.Try.func75 (by kernel_rfl) (by kernel_rfl) (Fn_pure (F75_ok k v2 v5 h3) (by simp [AV.low, AV.lows, AObj.low]) (by simp [AV.low, AV.lows, AObj.low]))) ?_
              refine AR_many hT 1 [1, 15] [(1, (.ptr 0 0)), (15, (.bool v5))] [.cells [(.int .i64 v1), (.str v2), (.int .i64 v3), (.int .i64 v4)]] (by kernel_rfl) ?_
              refine AR_op (by kernel_rfl) (OpJ_boolK hT (q := v5) (by kernel_rfl) h4) ?_
              refine AR_many hT 4 [1, 20] [(1, (.ptr 0 0)), (20, (.bool (decide (v3 ≥ 0))))] [.cells [(.int .i64 v1), (.str v2), (.int .i64 v3), (.int .i64 v4)]] (by kernel_rfl) ?_
              refine AR_op (by kernel_rfl) (OpJ_boolK hT (q := (decide (v3 ≥ 0))) (by kernel_rfl) h5) ?_
              refine AR_many hT 4 [1, 25] [(1, (.ptr 0 0)), (25, (.bool (decide (v3 ≤ 65535))))] [.cells [(.int .i64 v1), (.str v2), (.int .i64 v3), (.int .i64 v4)]] (by kernel_rfl) ?_
              refine AR_op (by kernel_rfl) (OpJ_boolK hT (q := (decide (v3 ≤ 65535))) (by kernel_rfl) h6) ?_
              refine AR_many hT 3 [1, 26, 29] [(1, (.ptr 0 0)), (26, (.bool true)), (29, (.bool (v1 != 3)))] [.cells [(.int .i64 v1), (.str v2), (.int .i64 v3), (.int .i64 v4)]] (by kernel_rfl) ?_
              refine AR_op (by kernel_rfl) (OpJ_boolK hT (q := (v1 != 3)) (by kernel_rfl) h7) ?_
              refine AR_many hT 6 [2] [(2, (.bool (v3 == 0)))] [.cells [(.int .i64 v1), (.str v2), (.int .i64 v3), (.int .i64 v4)]] (by kernel_rfl) ?_
              refine AR_fin (by kernel_rfl) ?_
              refine AE_seqN ?_
              refine AE_ret ?_
              refine AE_keep [2] (env' := [(2, (.bool (v3 == 0)))]) (by kernel_rfl) ?_
              simp only [Option.some.injEq] at h
              subst h
              exact AE_done ⟨trivial, by kernel_rfl, by kernel_rfl, by simp [AV.low, AV.lows, AObj.low], by simp [AV.low, AV.lows, AObj.low]⟩
          · replace h := bifF h6 h
            refine AW_reg ?_
            refine AR_many hT 3 [1, 5] [(1, (.ptr 0 0)), (5, (.bool (decide (v1 ≥ 1))))] [.cells [(.int .i64 v1), (.str v2), (.int .i64 v3), (.int .i64 v4)]] (by kernel_rfl) ?_
            refine AR_op (by kernel_rfl) (OpJ_boolK hT (q := (decide (v1 ≥ 1))) (by kernel_rfl) h1) ?_
            refine AR_many hT 4 [1, 10] [(1, (.ptr 0 0)), (10, (.bool (decide (v1 ≤ 4))))] [.cells [(.int .i64 v1), (.str v2), (.int .i64 v3), (.int .i64 v4)]] (by kernel_rfl) ?_
            refine AR_op (by kernel_rfl) (OpJ_boolK hT (q := (decide (v1 ≤ 4))) (by kernel_rfl) h2) ?_
            refine AR_many hT 2 [1, 11, 13] [(1, (.ptr 0 0)), (11, (.bool true)), (13, (.str v2))] [.cells [(.int .i64 v1), (.str v2), (.int .i64 v3), (.int .i64 v4)]] (by kernel_rfl) ?_
            refine AR_op (by kernel_rfl) (OpJ_callK (g := 75) (args := [(.str v2)]) (by kernel_rfl) Go.Proofs.Try.func75 (by kernel_rfl) (by kernel_rfl) (Fn_pure (F75_ok k v2 v5 h3) (by simp [AV.low, AV.lows, AObj.low]) (by simp [AV.low, AV.lows, AObj.low]))) ?_
            refine AR_many hT 1 [1, 15] [(1, (.ptr 0 0)), (15, (.bool v5))] [.cells [(.int .i64 v1), (.str v2), (.int .i64 v3), (.int .i64 v4)]] (by kernel_rfl) ?_
            refine AR_op (by kernel_rfl) (OpJ_boolK hT (q := v5) (by kernel_rfl) h4) ?_
            refine AR_many hT 4 [1, 20] [(1, (.ptr 0 0)), (20, (.bool (decide (v3 ≥ 0))))] [.cells [(.int .i64 v1), (.str v2), (.int .i64 v3), (.int .i64 v4)]] (by kernel_rfl) ?_
            refine AR_op (by kernel_rfl) (OpJ_boolK hT (q := (decide (v3 ≥ 0))) (by kernel_rfl) h5) ?_
            refine AR_many hT 4 [1, 25] [(1, (.ptr 0 0)), (25, (.bool (decide (v3 ≤ 65535))))] [.cells [(.int .i64 v1), (.str v2), (.int .i64 v3), (.int .i64 v4)]] (by kernel_rfl) ?_
            refine AR_op (by kernel_rfl) (OpJ_boolK hT (q := (decide (v3 ≤ 65535))) (by kernel_rfl) h6) ?_
            refine AR_many hT 10 [2] [(2, (.bool false))] [.cells [(.int .i64 v1), (.str v2), (.int .i64 v3), (.int .i64 v4)]] (by kernel_rfl) ?_
            refine AR_fin (by kernel_rfl) ?_
            refine AE_seqN ?_
            refine AE_ret ?_
            refine AE_keep [2] (env' := [(2, (.bool false))]) (by kernel_rfl) ?_
            simp only [Option.some.injEq] at h
            subst h
            exact AE_done ⟨trivial, by kernel_rfl, by kernel_rfl, by simp [AV.low, AV.lows, AObj.low], by simp [AV.low, AV.lows, AObj.low]⟩
        · replace h := bifF h5 h
          refine AW_reg ?_
          refine AR_many hT 3 [1, 5] [(1, (.ptr 0 0)), (5, (.bool (decide (v1 ≥ 1))))] [.cells [(.int .i64 v1), (.str v2), (.int .i64 v3), (.int .i64 v4)]] (by kernel_rfl) ?_
          refine AR_op (by kernel_rfl) (OpJ_boolK hT (q := (decide (v1 ≥ 1))) (by kernel_rfl) h1) ?_
          refine AR_many hT 4 [1, 10] [(1, (.ptr 0 0)), (10, (.bool (decide (v1 ≤ 4))))] [.cells [(.int .i64 v1), (.str v2), (.int .i64 v3), (.int .i64 v4)]] (by kernel_rfl) ?_
          refine AR_op (by kernel_rfl) (OpJ_boolK hT (q := (decide (v1 ≤ 4))) (by kernel_rfl) h2) ?_
          refine AR_many hT 2 [1, 11, 13] [(1, (.ptr 0 0)), (11, (.bool true)), (13, (.str v2))] [.cells [(.int .i64 v1), (.str v2), (.int .i64 v3), (.int .i64 v4)]] (by kernel_rfl) ?_
          refine AR_op (by kernel_rfl) (OpJ_callK (g := 75) (args := [(.str v2)]) (by kernel_rfl) Go.Proofs.Try.func75 (by kernel_rfl) (by kernel_rfl) (Fn_pure (F75_ok k v2 v5 h3) (by simp [AV.low, AV.lows, AObj.low]) (by simp [AV.low, AV.lows, AObj.low]))) ?_
          refine AR_many hT 1 [1, 15] [(1, (.ptr 0 0)), (15, (.bool v5))] [.cells [(.int .i64 v1), (.str v2), (.int .i64 v3), (.int .i64 v4)]] (by kernel_rfl) ?_
          refine AR_op (by kernel_rfl) (OpJ_boolK hT (q := v5) (by kernel_rfl) h4) ?_
          refine AR_many hT 4 [1, 20] [(1, (.ptr 0 0)), (20, (.bool (decide (v3 ≥ 0))))] [.cells [(.int .i64 v1), (.str v2), (.int .i64 v3), (.int .i64 v4)]] (by kernel_rfl) ?_
          refine AR_op (by kernel_rfl) (OpJ_boolK hT (q := (decide (v3 ≥ 0))) (by kernel_rfl) h5) ?_
          refine AR_many hT 15 [2] [(2, (.bool false))] [.cells [(.int .i64 v1), (.str v2), (.int .i64 v3), (.int .i64 v4)]] (by kernel_rfl) ?_
          refine AR_fin (by kernel_rfl) ?_
          refine AE_seqN ?_
          refine AE_ret ?_
          refine AE_keep [2] (env' := [(2, (.bool false))]) (by kernel_rfl) ?_
          simp only [Option.some.injEq] at h
          subst h
          exact AE_done ⟨trivial, by kernel_rfl, by kernel_rfl, by simp [AV.low, AV.lows, AObj.low], by simp [AV.low, AV.lows, AObj.low]⟩
      · replace h := bifF h4 h
        refine AW_reg ?_
        refine AR_many hT 3 [1, 5] [(1, (.ptr 0 0)), (5, (.bool (decide (v1 ≥ 1))))] [.cells [(.int .i64 v1), (.str v2), (.int .i64 v3), (.int .i64 v4)]] (by kernel_rfl) ?_
        refine AR_op (by kernel_rfl) (OpJ_boolK hT (q := (decide (v1 ≥ 1))) (by kernel_rfl) h1) ?_
        refine AR_many hT 4 [1, 10] [(1, (.ptr 0 0)), (10, (.bool (decide (v1 ≤ 4))))] [.cells [(.int .i64 v1), (.str v2), (.int .i64 v3), (.int .i64 v4)]] (by kernel_rfl) ?_
        refine AR_op (by kernel_rfl) (OpJ_boolK hT (q := (decide (v1 ≤ 4))) (by kernel_rfl) h2) ?_
        refine AR_many hT 2 [1, 11, 13] [(1, (.ptr 0 0)), (11, (.bool true)), (13, (.str v2))] [.cells [(.int .i64 v1), (.str v2), (.int .i64 v3), (.int .i64 v4)]] (by kernel_rfl) ?_
        refine AR_op (by kernel_rfl) (OpJ_callK (g := 75) (args := [(.str v2)]) (by kernel_rfl) Go.Proofs.Try.func75 (by kernel_rfl) (by kernel_rfl) (Fn_pure (F75_ok k v2 v5 h3) (by simp [AV.low, AV.lows, AObj.low]) (by simp [AV.low, AV.lows, AObj.low]))) ?_
        refine AR_many hT 1 [1, 15] [(1, (.ptr 0 0)), (15, (.bool v5))] [.cells [(.int .i64 v1), (.str v2), (.int .i64 v3), (.int .i64 v4)]] (by kernel_rfl) ?_
        refine AR_op (by kernel_rfl) (OpJ_boolK hT (q := v5) (by kernel_rfl) h4) ?_
        refine AR_many hT 20 [2] [(2, (.bool false))] [.cells [(.int .i64 v1), (.str v2), (.int .i64 v3), (.int .i64 v4)]] (by kernel_rfl) ?_
        refine AR_fin (by kernel_rfl) ?_
        refine AE_seqN ?_
        refine AE_ret ?_
        refine AE_keep [2] (env' := [(2, (.bool false))]) (by kernel_rfl) ?_
        simp only [Option.some.injEq] at h
        subst h
        exact AE_done ⟨trivial, by kernel_rfl, by kernel_rfl, by simp [AV.low, AV.lows, AObj.low], by simp [AV.low, AV.lows, AObj.low]⟩
    · replace h := bifF h2 h
      refine AW_reg ?_
      refine AR_many hT 3 [1, 5] [(1, (.ptr 0 0)), (5, (.bool (decide (v1 ≥ 1))))] [.cells [(.int .i64 v1), (.str v2), (.int .i64 v3), (.int .i64 v4)]] (by kernel_rfl) ?_
      refine AR_op (by kernel_rfl) (OpJ_boolK hT (q := (decide (v1 ≥ 1))) (by kernel_rfl) h1) ?_
      refine AR_many hT 4 [1, 10] [(1, (.ptr 0 0)), (10, (.bool (decide (v1 ≤ 4))))] [.cells [(.int .i64 v1), (.str v2), (.int .i64 v3), (.int .i64 v4)]] (by kernel_rfl) ?_
      refine AR_op (by kernel_rfl) (OpJ_boolK hT (q := (decide (v1 ≤ 4))) (by kernel_rfl) h2) ?_
      refine AR_many hT 25 [2] [(2, (.bool false))] [.cells [(.int .i64 v1), (.str v2), (.int .i64 v3), (.int .i64 v4)]] (by kernel_rfl) ?_
      refine AR_fin (by kernel_rfl) ?_
      refine AE_seqN ?_
      refine AE_ret ?_
      refine AE_keep [2] (env' := [(2, (.bool false))]) (by kernel_rfl) ?_
      simp only [Option.some.injEq] at h
      subst h
      exact AE_done ⟨trivial, by kernel_rfl, by kernel_rfl, by simp [AV.low, AV.lows, AObj.low], by simp [AV.low, AV.lows, AObj.low]⟩
  · replace h := bifF h1 h
    refine AW_reg ?_
    refine AR_many hT 3 [1, 5] [(1, (.ptr 0 0)), (5, (.bool (decide (v1 ≥ 1))))] [.cells [(.int .i64 v1), (.str v2), (.int .i64 v3), (.int .i64 v4)]] (by kernel_rfl) ?_
    refine AR_op (by kernel_rfl) (OpJ_boolK hT (q := (decide (v1 ≥ 1))) (by kernel_rfl) h1) ?_
    refine AR_many hT 30 [2] [(2, (.bool false))] [.cells [(.int .i64 v1), (.str v2), (.int .i64 v3), (.int .i64 v4)]] (by kernel_rfl) ?_
    refine AR_fin (by kernel_rfl) ?_
    refine AE_seqN ?_
    refine AE_ret ?_
    refine AE_keep [2] (env' := [(2, (.bool false))]) (by kernel_rfl) ?_
    simp only [Option.some.injEq] at h
    subst h
    exact AE_done ⟨trivial, by kernel_rfl, by kernel_rfl, by simp [AV.low, AV.lows, AObj.low], by simp [AV.low, AV.lows, AObj.low]⟩

def F73 (k : Nat) (v1 : Int) (v2 : ByteArray) (v3 : Int) (v4 : Int) : Option (Bool) :=
  ((F74 k v1 v2 v3 v4).bind fun v5 =>
    some ((!v5)))

theorem F73_ok (k : Nat) : ∀ (v1 : Int) (v2 : ByteArray) (v3 : Int) (v4 : Int) (r1 : Bool), F73 k v1 v2 v3 v4 = some (r1) → Fn prog 73 [(.agg [(.int .i64 v1), (.str v2), (.int .i64 v3), (.int .i64 v4)])] [] (.bool r1) [] := by
  intro v1 v2 v3 v4 r1 h
  rw [F73] at h
  refine Fn_bodyK hT Go.Proofs.Try.func73 (c := Go.Proofs.Try.f73.body.getD .skip) (by kernel_rfl) (by kernel_rfl) (by kernel_rfl) ?_
  refine AW_seq ?_
  refine AW_reg ?_
  refine AR_many hT 2 [1] [(1, (.ptr 0 0))] [.cells [(.int .i64 v1), (.str v2), (.int .i64 v3), (.int .i64 v4)]] (by kernel_rfl) ?_
  refine AR_fin (by kernel_rfl) ?_
  refine AE_seqN ?_
  refine AW_seq ?_
  obtain ⟨v5, h1, h⟩ := Option.bind_eq_some_iff.mp h
  try dsimp only at h
  refine AW_reg ?_
  refine AR_many hT 1 [3] [(3, (.agg [(.int .i64 v1), (.str v2), (.int .i64 v3), (.int .i64 v4)]))] [.cells [(.int .i64 v1), (.str v2), (.int .i64 v3), (.int .i64 v4)]] (by kernel_rfl) ?_
  refine AR_op (by kernel_rfl) (OpJ_callK (g := 74) (args := [(.agg [(.int .i64 v1), (.str v2), (.int .i64 v3), (.int .i64 v4)])]) (by kernel_rfl) Go.Proofs.Try.func74 (by kernel_rfl) (by kernel_rfl) (Fn_pure (F74_ok k v1 v2 v3 v4 v5 h1) (by simp [AV.low, AV.lows, AObj.low]) (by simp [AV.low, AV.lows, AObj.low]))) ?_
  refine AR_many hT 2 [2] [(2, (.bool (!v5)))] [.cells [(.int .i64 v1), (.str v2), (.int .i64 v3), (.int .i64 v4)]] (by kernel_rfl) ?_
  refine AR_fin (by kernel_rfl) ?_
  refine AE_seqN ?_
  refine AE_ret ?_
  refine AE_keep [2] (env' := [(2, (.bool (!v5)))]) (by kernel_rfl) ?_
  simp only [Option.some.injEq] at h
  subst h
  exact AE_done ⟨trivial, by kernel_rfl, by kernel_rfl, by simp [AV.low, AV.lows, AObj.low], by simp [AV.low, AV.lows, AObj.low]⟩

def F63_l0 : Nat → (List T76) → Int → Option (Int)
  | 0, _, _ => none
  | k1 + 1, v1, v2 =>
    (bif (decide (v2 < ((l76 v1).length : Int))) then
      ((idx v1 v2).bind fun ⟨v3, v4, v5, v6⟩ =>
        ((F73 k1 v3 v4 v5 v6).bind fun v7 =>
          (bif v7 then
            some (v2)
          else
            F63_l0 k1 v1 (IntKind.wrap .i64 (v2 + 1)))))
    else
      some ((-1)))

def F63 (k : Nat) (v1 : (List T76)) : Option (Int) :=
  F63_l0 k v1 0

theorem F63_ok (k : Nat) : ∀ (v1 : (List T76)) (r1 : Int), F63 k v1 = some (r1) → Fn prog 63 [(.sl (l76 v1)), (.fn 73 [] [])] [] (.int .i64 r1) [] := by
  intro v1 r1 h
  rw [F63] at h
  refine Fn_bodyK hT Go.Proofs.Try.func63 (c := Go.Proofs.Try.f63.body.getD .skip) (by kernel_rfl) (by kernel_rfl) (by kernel_rfl) ?_
  refine AW_seq ?_
  refine AW_reg ?_
  refine AR_many hT 1 [0, 1] [(0, (.sl (l76 v1))), (1, (.fn 73 [] []))] [] (by kernel_rfl) ?_
  refine AR_fin (by kernel_rfl) ?_
  refine AE_seqN ?_
  refine AW_seq ?_
  refine AW_seq ?_
  refine AW_reg ?_
  refine AR_many hT 3 [0, 1, 7, 8] [(0, (.sl (l76 v1))), (1, (.fn 73 [] [])), (7, (.int .i64 ((l76 v1).length : Int))), (8, (.int .i64 0))] [] (by kernel_rfl) ?_
  refine AR_fin (by kernel_rfl) ?_
  refine AE_seqN ?_
  refine AW_block ?_
  refine AW_keep [0, 1, 7, 8] (env' := [(0, (.sl (l76 v1))), (1, (.fn 73 [] [])), (7, (.int .i64 ((l76 v1).length : Int))), (8, (.int .i64 0))]) (by kernel_rfl) ?_
  refine AW_loop (fun n env L => n ≤ k ∧ ∃ (v2 : Int), env = [(0, (.sl (l76 v1))), (1, (.fn 73 [] [])), (7, (.int .i64 ((l76 v1).length : Int))), (8, (.int .i64 v2))] ∧ L = [] ∧ F63_l0 n v1 v2 = some (r1)) k ⟨Nat.le_refl _, 0, rfl, rfl, h⟩ ?_
  rintro n _ _ ⟨hn, v2, rfl, rfl, h⟩
  cases n with
  | zero => rw [F63_l0] at h; cases h
  | succ k1 =>
    rw [F63_l0] at h
    refine AW_seq ?_
    refine AW_reg ?_
    refine AR_many hT 1 [0, 1, 7, 8, 9] [(0, (.sl (l76 v1))), (1, (.fn 73 [] [])), (7, (.int .i64 ((l76 v1).length : Int))), (8, (.int .i64 v2)), (9, (.bool (decide (v2 < ((l76 v1).length : Int)))))] [] (by kernel_rfl) ?_
    refine AR_fin (by kernel_rfl) ?_
    refine AE_seqN ?_
    refine AW_seq ?_
    rcases Bool.eq_false_or_eq_true (decide (v2 < ((l76 v1).length : Int))) with h3 | h3
    · replace h := bifT h3 h
      refine AW_ifT (q := (decide (v2 < ((l76 v1).length : Int)))) (by kernel_rfl) h3 ?_
      refine AE_skip ?_
      refine AE_seqN ?_
      refine AW_seq ?_
      refine AW_block ?_
      refine AW_seq ?_
      refine AW_reg ?_
      refine AR_many hT 2 [0, 1, 5, 7, 8] [(0, (.sl (l76 v1))), (1, (.fn 73 [] [])), (5, (.int .i64 v2)), (7, (.int .i64 ((l76 v1).length : Int))), (8, (.int .i64 v2))] [] (by kernel_rfl) ?_
      refine AR_fin (by kernel_rfl) ?_
      refine AE_seqN ?_
      refine AW_seq ?_
      obtain ⟨⟨v3, v4, v5, v6⟩, h4, h⟩ := Option.bind_eq_some_iff.mp h
      try dsimp only at h
      obtain ⟨v7, h5, h⟩ := Option.bind_eq_some_iff.mp h
      try dsimp only at h
      refine AW_reg ?_
      refine AR_many hT 3 [0, 1, 5, 7, 8, 11, 12, 13] [(0, (.sl (l76 v1))), (1, (.fn 73 [] [])), (5, (.int .i64 v2)), (7, (.int .i64 ((l76 v1).length : Int))), (8, (.int .i64 v2)), (11, (.fn 73 [] [])), (12, (.sl (l76 v1))), (13, (.int .i64 v2))] [] (by kernel_rfl) ?_
      refine AR_op (by kernel_rfl) (OpJ_indexK hT (xs := l76 v1) (j := v2) (n := 4) (by kernel_rfl) (i76 h4) (by kernel_rfl)) ?_
      refine AR_many hT 1 [0, 1, 5, 7, 8, 11, 15] [(0, (.sl (l76 v1))), (1, (.fn 73 [] [])), (5, (.int .i64 v2)), (7, (.int .i64 ((l76 v1).length : Int))), (8, (.int .i64 v2)), (11, (.fn 73 [] [])), (15, (.agg [(.int .i64 v3), (.str v4), (.int .i64 v5), (.int .i64 v6)]))] [] (by kernel_rfl) ?_
      refine AR_op (by kernel_rfl) (OpJ_callK (g := 73) (args := [(.agg [(.int .i64 v3), (.str v4), (.int .i64 v5), (.int .i64 v6)])]) (by kernel_rfl) Go.Proofs.Try.func73 (by kernel_rfl) (by kernel_rfl) (Fn_pure (F73_ok k1 v3 v4 v5 v6 v7 h5) (by simp [AV.low, AV.lows, AObj.low]) (by simp [AV.low, AV.lows, AObj.low]))) ?_
      refine AR_fin (by kernel_rfl) ?_
      refine AE_keep [0, 1, 5, 7, 8, 16] (env' := [(0, (.sl (l76 v1))), (1, (.fn 73 [] [])), (5, (.int .i64 v2)), (7, (.int .i64 ((l76 v1).length : Int))), (8, (.int .i64 v2)), (16, (.bool v7))]) (by kernel_rfl) ?_
      refine AE_seqN ?_
      rcases Bool.eq_false_or_eq_true v7 with h6 | h6
      · replace h := bifT h6 h
        refine AW_ifT (q := v7) (by kernel_rfl) h6 ?_
        refine AW_seq ?_
        refine AW_reg ?_
        refine AR_many hT 2 [4] [(4, (.int .i64 v2))] [] (by kernel_rfl) ?_
        refine AR_fin (by kernel_rfl) ?_
        refine AE_seqN ?_
        refine AE_ret ?_
        refine AE_blkR ?_
        refine AE_seqR ?_
        refine AE_seqR ?_
        refine AE_blkR ?_
        refine AE_seqR ?_
        refine AE_keep [4] (env' := [(4, (.int .i64 v2))]) (by kernel_rfl) ?_
        simp only [Option.some.injEq] at h
        subst h
        exact AE_done ⟨trivial, by kernel_rfl, by kernel_rfl, by simp [AV.low, AV.lows, AObj.low], by simp [AV.low, AV.lows, AObj.low]⟩
      · replace h := bifF h6 h
        refine AW_ifF (q := v7) (by kernel_rfl) h6 ?_
        refine AE_skip ?_
        refine AE_blkN ?_
        refine AE_seqN ?_
        refine AW_reg ?_
        refine AR_many hT 2 [0, 1, 7, 8] [(0, (.sl (l76 v1))), (1, (.fn 73 [] [])), (7, (.int .i64 ((l76 v1).length : Int))), (8, (.int .i64 (IntKind.wrap .i64 (v2 + 1))))] [] (by kernel_rfl) ?_
        refine AR_fin (by kernel_rfl) ?_
        refine AE_keep [0, 1, 7, 8] (env' := [(0, (.sl (l76 v1))), (1, (.fn 73 [] [])), (7, (.int .i64 ((l76 v1).length : Int))), (8, (.int .i64 (IntKind.wrap .i64 (v2 + 1))))]) (by kernel_rfl) ?_
        exact AE_done ⟨k1, by omega, by omega, (IntKind.wrap .i64 (v2 + 1)), rfl, rfl, h⟩
    · replace h := bifF h3 h
      refine AW_ifF (q := (decide (v2 < ((l76 v1).length : Int)))) (by kernel_rfl) h3 ?_
      refine AE_exit ?_
      refine AE_seqX ?_
      refine AE_seqX ?_
      refine AE_blkH ?_
      refine AE_seqN ?_
      refine AW_seq ?_
      refine AW_reg ?_
      refine AR_many hT 1 [4] [(4, (.int .i64 (-1)))] [] (by kernel_rfl) ?_
      refine AR_fin (by kernel_rfl) ?_
      refine AE_seqN ?_
      refine AE_ret ?_
      refine AE_keep [4] (env' := [(4, (.int .i64 (-1)))]) (by kernel_rfl) ?_
      simp only [Option.some.injEq] at h
      subst h
      exact AE_done ⟨trivial, by kernel_rfl, by kernel_rfl, by simp [AV.low, AV.lows, AObj.low], by simp [AV.low, AV.lows, AObj.low]⟩

def F72 (k : Nat) (v1 : (List T76)) : Option (Bool) :=
  ((F63 k v1).bind fun v2 =>
    some ((decide (v2 ≥ 0))))

theorem F72_ok (k : Nat) : ∀ (v1 : (List T76)) (r1 : Bool), F72 k v1 = some (r1) → Fn prog 72 [(.sl (l76 v1)), (.fn 73 [] [])] [] (.bool r1) [] := by
  intro v1 r1 h
  rw [F72] at h
  refine Fn_bodyK hT Go.Proofs.Try.func72 (c := Go.Proofs.Try.f72.body.getD .skip) (by kernel_rfl) (by kernel_rfl) (by kernel_rfl) ?_
  refine AW_seq ?_
  refine AW_reg ?_
  refine AR_many hT 1 [0, 1] [(0, (.sl (l76 v1))), (1, (.fn 73 [] []))] [] (by kernel_rfl) ?_
  refine AR_fin (by kernel_rfl) ?_
  refine AE_seqN ?_
  refine AW_seq ?_
  obtain ⟨v2, h1, h⟩ := Option.bind_eq_some_iff.mp h
  try dsimp only at h
  refine AW_reg ?_
  refine AR_many hT 2 [5, 6] [(5, (.sl (l76 v1))), (6, (.fn 73 [] []))] [] (by kernel_rfl) ?_
  refine AR_op (by kernel_rfl) (OpJ_callK (g := 63) (args := [(.sl (l76 v1)), (.fn 73 [] [])]) (by kernel_rfl) Go.Proofs.Try.func63 (by kernel_rfl) (by kernel_rfl) (Fn_pure (F63_ok k v1 v2 h1) (by simp [AV.low, AV.lows, AObj.low]) (by simp [AV.low, AV.lows, AObj.low]))) ?_
  refine AR_many hT 2 [4] [(4, (.bool (decide (v2 ≥ 0))))] [] (by kernel_rfl) ?_
  refine AR_fin (by kernel_rfl) ?_
  refine AE_seqN ?_
  refine AE_ret ?_
  refine AE_keep [4] (env' := [(4, (.bool (decide (v2 ≥ 0))))]) (by kernel_rfl) ?_
  simp only [Option.some.injEq] at h
  subst h
  exact AE_done ⟨trivial, by kernel_rfl, by kernel_rfl, by simp [AV.low, AV.lows, AObj.low], by simp [AV.low, AV.lows, AObj.low]⟩

def F119_j2 (k17 : Nat) (v1 : Int) (v4 : Bool) : Option (Bool × Bool × Int × Bool × Bool × Bool) :=
  (bif v4 then
    some (true, false, 0, false, false, true)
  else
    (bif (v1 == 12) then
      some (false, false, 1, true, true, true)
    else
      (bif (v1 == 13) then
        some (true, false, 1, true, false, true)
      else
        (bif (v1 == 16) then
          some (false, false, 1, false, false, true)
        else
          some (false, false, 0, false, false, false)))))

def F119_j1 (k9 : Nat) (v1 : Int) (v3 : Bool) : Option (Bool × Bool × Int × Bool × Bool × Bool) :=
  (bif v3 then
    some (true, false, 1, false, false, true)
  else
    (bif (v1 == 6) then
      some (true, true, 1, false, false, true)
    else
      (bif (v1 == 7) then
        some (true, true, 2, false, false, true)
      else
        (bif (v1 == 8) then
          some (true, false, 0, true, false, true)
        else
          (bif (v1 == 11) then
            F119_j2 k9 v1 (v1 == 11)
          else
            (bif (v1 == 14) then
              F119_j2 k9 v1 (v1 == 14)
            else
              F119_j2 k9 v1 (v1 == 15)))))))

def F119_j0 (k4 : Nat) (v1 : Int) (v2 : Bool) : Option (Bool × Bool × Int × Bool × Bool × Bool) :=
  (bif v2 then
    some (true, true, 0, false, false, true)
  else
    (bif (v1 == 3) then
      F119_j1 k4 v1 (v1 == 3)
    else
      (bif (v1 == 5) then
        F119_j1 k4 v1 (v1 == 5)
      else
        F119_j1 k4 v1 (v1 == 9))))

def F119 (k : Nat) (v1 : Int) : Option (Bool × Bool × Int × Bool × Bool × Bool) :=
  (bif (v1 == 1) then
    some (false, true, 1, false, false, true)
  else
    (bif (v1 == 2) then
      F119_j0 k v1 (v1 == 2)
    else
      (bif (v1 == 4) then
        F119_j0 k v1 (v1 == 4)
      else
        F119_j0 k v1 (v1 == 10))))

theorem F119_ok (k : Nat) : ∀ (v1 : Int) (r1 : Bool) (r2 : Bool) (r3 : Int) (r4 : Bool) (r5 : Bool) (r6 : Bool), F119 k v1 = some (r1, r2, r3, r4, r5, r6) → Fn prog 119 [(.int .i64 v1)] [] (.tup [(.agg [(.bool r1), (.bool r2), (.int .i64 r3), (.bool r4), (.bool r5)]), (.bool r6)]) [] := by
  intro v1 r1 r2 r3 r4 r5 r6 h
  rw [F119] at h
  refine Fn_bodyK hT Go.Proofs.Try.func119 (c := Go.Proofs.Try.f119.body.getD .skip) (by kernel_rfl) (by kernel_rfl) (by kernel_rfl) ?_
  refine AW_seq ?_
  refine AW_reg ?_
  refine AR_many hT 2 [0, 2] [(0, (.int .i64 v1)), (2, (.ptr 0 0))] [.cells [(.bool false), (.bool false), (.int .i64 0), (.bool false), (.bool false)]] (by kernel_rfl) ?_
  refine AR_fin (by kernel_rfl) ?_
  refine AE_seqN ?_
  refine AW_seq ?_
  refine AW_seq ?_
  refine AW_reg ?_
  refine AR_many hT 1 [2, 4] [(2, (.ptr 0 0)), (4, (.int .i64 v1))] [.cells [(.bool false), (.bool false), (.int .i64 0), (.bool false), (.bool false)]] (by kernel_rfl) ?_
  refine AR_fin (by kernel_rfl) ?_
  refine AE_seqN ?_
  refine AW_block ?_
  refine AW_seq ?_
  refine AW_reg ?_
  refine AR_many hT 2 [2, 4, 5] [(2, (.ptr 0 0)), (4, (.int .i64 v1)), (5, (.bool (v1 == 1)))] [.cells [(.bool false), (.bool false), (.int .i64 0), (.bool false), (.bool false)]] (by kernel_rfl) ?_
  refine AR_fin (by kernel_rfl) ?_
  refine AE_seqN ?_
  rcases Bool.eq_false_or_eq_true (v1 == 1) with h1 | h1
  · replace h := bifT h1 h
    refine AW_ifT (q := (v1 == 1)) (by kernel_rfl) h1 ?_
    refine AW_seq ?_
    refine AW_reg ?_
    refine AR_many hT 3 [2, 3] [(2, (.ptr 0 0)), (3, (.bool true))] [.cells [(.bool false), (.bool true), (.int .i64 1), (.bool false), (.bool false)]] (by kernel_rfl) ?_
    refine AR_fin (by kernel_rfl) ?_
    refine AE_seqN ?_
    refine AE_ret ?_
    refine AE_blkR ?_
    refine AE_seqR ?_
    refine AE_keep [2, 3] (env' := [(2, (.ptr 0 0)), (3, (.bool true))]) (by kernel_rfl) ?_
    simp only [Option.some.injEq, Prod.mk.injEq] at h
    obtain ⟨rfl, rfl, rfl, rfl, rfl, rfl⟩ := h
    exact AE_done ⟨trivial, by kernel_rfl, by kernel_rfl, by simp [AV.low, AV.lows, AObj.low], by simp [AV.low, AV.lows, AObj.low]⟩
  · replace h := bifF h1 h
    refine AW_ifF (q := (v1 == 1)) (by kernel_rfl) h1 ?_
    refine AW_join (fun env L => ∃ (v2 : Bool), env = [(2, (.ptr 0 0)), (4, (.int .i64 v1)), (8, (.bool v2))] ∧ L = [.cells [(.bool false), (.bool false), (.int .i64 0), (.bool false), (.bool false)]] ∧ ∃ n, n ≤ k ∧ F119_j0 n v1 v2 = some (r1, r2, r3, r4, r5, r6)) ?_ ?_
    · refine AW_seq ?_
      refine AW_reg ?_
      refine AR_many hT 2 [2, 4, 8] [(2, (.ptr 0 0)), (4, (.int .i64 v1)), (8, (.bool (v1 == 2)))] [.cells [(.bool false), (.bool false), (.int .i64 0), (.bool false), (.bool false)]] (by kernel_rfl) ?_
      refine AR_fin (by kernel_rfl) ?_
      refine AE_seqN ?_
      rcases Bool.eq_false_or_eq_true (v1 == 2) with h2 | h2
      · replace h := bifT h2 h
        refine AW_ifT (q := (v1 == 2)) (by kernel_rfl) h2 ?_
        refine AE_skip ?_
        refine AE_keep [2, 4, 8] (env' := [(2, (.ptr 0 0)), (4, (.int .i64 v1)), (8, (.bool (v1 == 2)))]) (by kernel_rfl) ?_
        exact AE_done ⟨(v1 == 2), rfl, rfl, k, Nat.le_refl _, h⟩
      · replace h := bifF h2 h
        refine AW_ifF (q := (v1 == 2)) (by kernel_rfl) h2 ?_
        refine AW_seq ?_
        refine AW_reg ?_
        refine AR_many hT 2 [2, 4, 8] [(2, (.ptr 0 0)), (4, (.int .i64 v1)), (8, (.bool (v1 == 4)))] [.cells [(.bool false), (.bool false), (.int .i64 0), (.bool false), (.bool false)]] (by kernel_rfl) ?_
        refine AR_fin (by kernel_rfl) ?_
        refine AE_seqN ?_
        rcases Bool.eq_false_or_eq_true (v1 == 4) with h3 | h3
        · replace h := bifT h3 h
          refine AW_ifT (q := (v1 == 4)) (by kernel_rfl) h3 ?_
          refine AE_skip ?_
          refine AE_keep [2, 4, 8] (env' := [(2, (.ptr 0 0)), (4, (.int .i64 v1)), (8, (.bool (v1 == 4)))]) (by kernel_rfl) ?_
          exact AE_done ⟨(v1 == 4), rfl, rfl, k, Nat.le_refl _, h⟩
        · replace h := bifF h3 h
          refine AW_ifF (q := (v1 == 4)) (by kernel_rfl) h3 ?_
          refine AW_reg ?_
          refine AR_many hT 2 [2, 4, 8] [(2, (.ptr 0 0)), (4, (.int .i64 v1)), (8, (.bool (v1 == 10)))] [.cells [(.bool false), (.bool false), (.int .i64 0), (.bool false), (.bool false)]] (by kernel_rfl) ?_
          refine AR_fin (by kernel_rfl) ?_
          refine AE_keep [2, 4, 8] (env' := [(2, (.ptr 0 0)), (4, (.int .i64 v1)), (8, (.bool (v1 == 10)))]) (by kernel_rfl) ?_
          exact AE_done ⟨(v1 == 10), rfl, rfl, k, Nat.le_refl _, h⟩
    · rintro _ _ ⟨v2, rfl, rfl, n, hn, h⟩
      obtain ⟨k4, rfl⟩ : ∃ q, q = n := ⟨n, rfl⟩
      rw [F119_j0] at h
      rcases Bool.eq_false_or_eq_true v2 with h6 | h6
      · replace h := bifT h6 h
        refine AW_ifT (q := v2) (by kernel_rfl) h6 ?_
        refine AW_seq ?_
        refine AW_reg ?_
        refine AR_many hT 3 [2, 3] [(2, (.ptr 0 0)), (3, (.bool true))] [.cells [(.bool true), (.bool true), (.int .i64 0), (.bool false), (.bool false)]] (by kernel_rfl) ?_
        refine AR_fin (by kernel_rfl) ?_
        refine AE_seqN ?_
        refine AE_ret ?_
        refine AE_blkR ?_
        refine AE_seqR ?_
        refine AE_keep [2, 3] (env' := [(2, (.ptr 0 0)), (3, (.bool true))]) (by kernel_rfl) ?_
        simp only [Option.some.injEq, Prod.mk.injEq] at h
        obtain ⟨rfl, rfl, rfl, rfl, rfl, rfl⟩ := h
        exact AE_done ⟨trivial, by kernel_rfl, by kernel_rfl, by simp [AV.low, AV.lows, AObj.low], by simp [AV.low, AV.lows, AObj.low]⟩
      · replace h := bifF h6 h
        refine AW_ifF (q := v2) (by kernel_rfl) h6 ?_
        refine AW_join (fun env L => ∃ (v3 : Bool), env = [(2, (.ptr 0 0)), (4, (.int .i64 v1)), (13, (.bool v3))] ∧ L = [.cells [(.bool false), (.bool false), (.int .i64 0), (.bool false), (.bool false)]] ∧ ∃ n, n ≤ k4 ∧ F119_j1 n v1 v3 = some (r1, r2, r3, r4, r5, r6)) ?_ ?_
        · refine AW_seq ?_
          refine AW_reg ?_
          refine AR_many hT 2 [2, 4, 13] [(2, (.ptr 0 0)), (4, (.int .i64 v1)), (13, (.bool (v1 == 3)))] [.cells [(.bool false), (.bool false), (.int .i64 0), (.bool false), (.bool false)]] (by kernel_rfl) ?_
          refine AR_fin (by kernel_rfl) ?_
          refine AE_seqN ?_
          rcases Bool.eq_false_or_eq_true (v1 == 3) with h7 | h7
          · replace h := bifT h7 h
            refine AW_ifT (q := (v1 == 3)) (by kernel_rfl) h7 ?_
            refine AE_skip ?_
            refine AE_keep [2, 4, 13] (env' := [(2, (.ptr 0 0)), (4, (.int .i64 v1)), (13, (.bool (v1 == 3)))]) (by kernel_rfl) ?_
            exact AE_done ⟨(v1 == 3), rfl, rfl, k4, Nat.le_refl _, h⟩
          · replace h := bifF h7 h
            refine AW_ifF (q := (v1 == 3)) (by kernel_rfl) h7 ?_
            refine AW_seq ?_
            refine AW_reg ?_
            refine AR_many hT 2 [2, 4, 13] [(2, (.ptr 0 0)), (4, (.int .i64 v1)), (13, (.bool (v1 == 5)))] [.cells [(.bool false), (.bool false), (.int .i64 0), (.bool false), (.bool false)]] (by kernel_rfl) ?_
            refine AR_fin (by kernel_rfl) ?_
            refine AE_seqN ?_
            rcases Bool.eq_false_or_eq_true (v1 == 5) with h8 | h8
            · replace h := bifT h8 h
              refine AW_ifT (q := (v1 == 5)) (by kernel_rfl) h8 ?_
              refine AE_skip ?_
              refine AE_keep [2, 4, 13] (env' := [(2, (.ptr 0 0)), (4, (.int .i64 v1)), (13, (.bool (v1 == 5)))]) (by kernel_rfl) ?_
              exact AE_done ⟨(v1 == 5), rfl, rfl, k4, Nat.le_refl _, h⟩
            · replace h := bifF h8 h
              refine AW_ifF (q := (v1 == 5)) (by kernel_rfl) h8 ?_
              refine AW_reg ?_
              refine AR_many hT 2 [2, 4, 13] [(2, (.ptr 0 0)), (4, (.int .i64 v1)), (13, (.bool (v1 == 9)))] [.cells [(.bool false), (.bool false), (.int .i64 0), (.bool false), (.bool false)]] (by kernel_rfl) ?_
              refine AR_fin (by kernel_rfl) ?_
              refine AE_keep [2, 4, 13] (env' := [(2, (.ptr 0 0)), (4, (.int .i64 v1)), (13, (.bool (v1 == 9)))]) (by kernel_rfl) ?_
              exact AE_done ⟨(v1 == 9), rfl, rfl, k4, Nat.le_refl _, h⟩
        · rintro _ _ ⟨v3, rfl, rfl, n, hn, h⟩
          obtain ⟨k9, rfl⟩ : ∃ q, q = n := ⟨n, rfl⟩
          rw [F119_j1] at h
          rcases Bool.eq_false_or_eq_true v3 with h11 | h11
          · replace h := bifT h11 h
            refine AW_ifT (q := v3) (by kernel_rfl) h11 ?_
            refine AW_seq ?_
            refine AW_reg ?_
            refine AR_many hT 3 [2, 3] [(2, (.ptr 0 0)), (3, (.bool true))] [.cells [(.bool true), (.bool false), (.int .i64 1), (.bool false), (.bool false)]] (by kernel_rfl) ?_
            refine AR_fin (by kernel_rfl) ?_
            refine AE_seqN ?_
            refine AE_ret ?_
            refine AE_blkR ?_
            refine AE_seqR ?_
            refine AE_keep [2, 3] (env' := [(2, (.ptr 0 0)), (3, (.bool true))]) (by kernel_rfl) ?_
            simp only [Option.some.injEq, Prod.mk.injEq] at h
            obtain ⟨rfl, rfl, rfl, rfl, rfl, rfl⟩ := h
            exact AE_done ⟨trivial, by kernel_rfl, by kernel_rfl, by simp [AV.low, AV.lows, AObj.low], by simp [AV.low, AV.lows, AObj.low]⟩
          · replace h := bifF h11 h
            refine AW_ifF (q := v3) (by kernel_rfl) h11 ?_
            refine AW_seq ?_
            refine AW_reg ?_
            refine AR_many hT 2 [2, 4, 18] [(2, (.ptr 0 0)), (4, (.int .i64 v1)), (18, (.bool (v1 == 6)))] [.cells [(.bool false), (.bool false), (.int .i64 0), (.bool false), (.bool false)]] (by kernel_rfl) ?_
            refine AR_fin (by kernel_rfl) ?_
            refine AE_seqN ?_
            rcases Bool.eq_false_or_eq_true (v1 == 6) with h12 | h12
            · replace h := bifT h12 h
              refine AW_ifT (q := (v1 == 6)) (by kernel_rfl) h12 ?_
              refine AW_seq ?_
              refine AW_reg ?_
              refine AR_many hT 3 [2, 3] [(2, (.ptr 0 0)), (3, (.bool true))] [.cells [(.bool true), (.bool true), (.int .i64 1), (.bool false), (.bool false)]] (by kernel_rfl) ?_
              refine AR_fin (by kernel_rfl) ?_
              refine AE_seqN ?_
              refine AE_ret ?_
              refine AE_blkR ?_
              refine AE_seqR ?_
              refine AE_keep [2, 3] (env' := [(2, (.ptr 0 0)), (3, (.bool true))]) (by kernel_rfl) ?_
              simp only [Option.some.injEq, Prod.mk.injEq] at h
              obtain ⟨rfl, rfl, rfl, rfl, rfl, rfl⟩ := h
              exact AE_done ⟨trivial, by kernel_rfl, by kernel_rfl, by simp [AV.low, AV.lows, AObj.low], by simp [AV.low, AV.lows, AObj.low]⟩
            · replace h := bifF h12 h
              refine AW_ifF (q := (v1 == 6)) (by kernel_rfl) h12 ?_
              refine AW_seq ?_
              refine AW_reg ?_
              refine AR_many hT 2 [2, 4, 21] [(2, (.ptr 0 0)), (4, (.int .i64 v1)), (21, (.bool (v1 == 7)))] [.cells [(.bool false), (.bool false), (.int .i64 0), (.bool false), (.bool false)]] (by kernel_rfl) ?_
              refine AR_fin (by kernel_rfl) ?_
              refine AE_seqN ?_
              rcases Bool.eq_false_or_eq_true (v1 == 7) with h13 | h13
              · replace h := bifT h13 h
                refine AW_ifT (q := (v1 == 7)) (by kernel_rfl) h13 ?_
                refine AW_seq ?_
                refine AW_reg ?_
                refine AR_many hT 3 [2, 3] [(2, (.ptr 0 0)), (3, (.bool true))] [.cells [(.bool true), (.bool true), (.int .i64 2), (.bool false), (.bool false)]] (by kernel_rfl) ?_
                refine AR_fin (by kernel_rfl) ?_
                refine AE_seqN ?_
                refine AE_ret ?_
                refine AE_blkR ?_
                refine AE_seqR ?_
                refine AE_keep [2, 3] (env' := [(2, (.ptr 0 0)), (3, (.bool true))]) (by kernel_rfl) ?_
                simp only [Option.some.injEq, Prod.mk.injEq] at h
                obtain ⟨rfl, rfl, rfl, rfl, rfl, rfl⟩ := h
                exact AE_done ⟨trivial, by kernel_rfl, by kernel_rfl, by simp [AV.low, AV.lows, AObj.low], by simp [AV.low, AV.lows, AObj.low]⟩
              · replace h := bifF h13 h
                refine AW_ifF (q := (v1 == 7)) (by kernel_rfl) h13 ?_
                refine AW_seq ?_
                refine AW_reg ?_
                refine AR_many hT 2 [2, 4, 24] [(2, (.ptr 0 0)), (4, (.int .i64 v1)), (24, (.bool (v1 == 8)))] [.cells [(.bool false), (.bool false), (.int .i64 0), (.bool false), (.bool false)]] (by kernel_rfl) ?_
                refine AR_fin (by kernel_rfl) ?_
                refine AE_seqN ?_
                rcases Bool.eq_false_or_eq_true (v1 == 8) with h14 | h14
                · replace h := bifT h14 h
                  refine AW_ifT (q := (v1 == 8)) (by kernel_rfl) h14 ?_
                  refine AW_seq ?_
                  refine AW_reg ?_
                  refine AR_many hT 3 [2, 3] [(2, (.ptr 0 0)), (3, (.bool true))] [.cells [(.bool true), (.bool false), (.int .i64 0), (.bool true), (.bool false)]] (by kernel_rfl) ?_
                  refine AR_fin (by kernel_rfl) ?_
                  refine AE_seqN ?_
                  refine AE_ret ?_
                  refine AE_blkR ?_
                  refine AE_seqR ?_
                  refine AE_keep [2, 3] (env' := [(2, (.ptr 0 0)), (3, (.bool true))]) (by kernel_rfl) ?_
                  simp only [Option.some.injEq, Prod.mk.injEq] at h
                  obtain ⟨rfl, rfl, rfl, rfl, rfl, rfl⟩ := h
                  exact AE_done ⟨trivial, by kernel_rfl, by kernel_rfl, by simp [AV.low, AV.lows, AObj.low], by simp [AV.low, AV.lows, AObj.low]⟩
                · replace h := bifF h14 h
                  refine AW_ifF (q := (v1 == 8)) (by kernel_rfl) h14 ?_
                  refine AW_join (fun env L => ∃ (v4 : Bool), env = [(2, (.ptr 0 0)), (4, (.int .i64 v1)), (27, (.bool v4))] ∧ L = [.cells [(.bool false), (.bool false), (.int .i64 0), (.bool false), (.bool false)]] ∧ ∃ n, n ≤ k9 ∧ F119_j2 n v1 v4 = some (r1, r2, r3, r4, r5, r6)) ?_ ?_
                  · refine AW_seq ?_
                    refine AW_reg ?_
                    refine AR_many hT 2 [2, 4, 27] [(2, (.ptr 0 0)), (4, (.int .i64 v1)), (27, (.bool (v1 == 11)))] [.cells [(.bool false), (.bool false), (.int .i64 0), (.bool false), (.bool false)]] (by kernel_rfl) ?_
                    refine AR_fin (by kernel_rfl) ?_
                    refine AE_seqN ?_
                    rcases Bool.eq_false_or_eq_true (v1 == 11) with h15 | h15
                    · replace h := bifT h15 h
                      refine AW_ifT (q := (v1 == 11)) (by kernel_rfl) h15 ?_
                      refine AE_skip ?_
                      refine AE_keep [2, 4, 27] (env' := [(2, (.ptr 0 0)), (4, (.int .i64 v1)), (27, (.bool (v1 == 11)))]) (by kernel_rfl) ?_
                      exact AE_done ⟨(v1 == 11), rfl, rfl, k9, Nat.le_refl _, h⟩
                    · replace h := bifF h15 h
                      refine AW_ifF (q := (v1 == 11)) (by kernel_rfl) h15 ?_
                      refine AW_seq ?_
                      refine AW_reg ?_
                      refine AR_many hT 2 [2, 4, 27] [(2, (.ptr 0 0)), (4, (.int .i64 v1)), (27, (.bool (v1 == 14)))] [.cells [(.bool false), (.bool false), (.int .i64 0), (.bool false), (.bool false)]] (by kernel_rfl) ?_
                      refine AR_fin (by kernel_rfl) ?_
                      refine AE_seqN ?_
                      rcases Bool.eq_false_or_eq_true (v1 == 14) with h16 | h16
                      · replace h := bifT h16 h
                        refine AW_ifT (q := (v1 == 14)) (by kernel_rfl) h16 ?_
                        refine AE_skip ?_
                        refine AE_keep [2, 4, 27] (env' := [(2, (.ptr 0 0)), (4, (.int .i64 v1)), (27, (.bool (v1 == 14)))]) (by kernel_rfl) ?_
                        exact AE_done ⟨(v1 == 14), rfl, rfl, k9, Nat.le_refl _, h⟩
                      · replace h := bifF h16 h
                        refine AW_ifF (q := (v1 == 14)) (by kernel_rfl) h16 ?_
                        refine AW_reg ?_
                        refine AR_many hT 2 [2, 4, 27] [(2, (.ptr 0 0)), (4, (.int .i64 v1)), (27, (.bool (v1 == 15)))] [.cells [(.bool false), (.bool false), (.int .i64 0), (.bool false), (.bool false)]] (by kernel_rfl) ?_
                        refine AR_fin (by kernel_rfl) ?_
                        refine AE_keep [2, 4, 27] (env' := [(2, (.ptr 0 0)), (4, (.int .i64 v1)), (27, (.bool (v1 == 15)))]) (by kernel_rfl) ?_
                        exact AE_done ⟨(v1 == 15), rfl, rfl, k9, Nat.le_refl _, h⟩
                  · rintro _ _ ⟨v4, rfl, rfl, n, hn, h⟩
                    obtain ⟨k17, rfl⟩ : ∃ q, q = n := ⟨n, rfl⟩
                    rw [F119_j2] at h
                    rcases Bool.eq_false_or_eq_true v4 with h19 | h19
                    · replace h := bifT h19 h
                      refine AW_ifT (q := v4) (by kernel_rfl) h19 ?_
                      refine AW_seq ?_
                      refine AW_reg ?_
                      refine AR_many hT 3 [2, 3] [(2, (.ptr 0 0)), (3, (.bool true))] [.cells [(.bool true), (.bool false), (.int .i64 0), (.bool false), (.bool false)]] (by kernel_rfl) ?_
                      refine AR_fin (by kernel_rfl) ?_
                      refine AE_seqN ?_
                      refine AE_ret ?_
                      refine AE_blkR ?_
                      refine AE_seqR ?_
                      refine AE_keep [2, 3] (env' := [(2, (.ptr 0 0)), (3, (.bool true))]) (by kernel_rfl) ?_
                      simp only [Option.some.injEq, Prod.mk.injEq] at h
                      obtain ⟨rfl, rfl, rfl, rfl, rfl, rfl⟩ := h
                      exact AE_done ⟨trivial, by kernel_rfl, by kernel_rfl, by simp [AV.low, AV.lows, AObj.low], by simp [AV.low, AV.lows, AObj.low]⟩
                    · replace h := bifF h19 h
                      refine AW_ifF (q := v4) (by kernel_rfl) h19 ?_
                      refine AW_seq ?_
                      refine AW_reg ?_
                      refine AR_many hT 2 [2, 4, 32] [(2, (.ptr 0 0)), (4, (.int .i64 v1)), (32, (.bool (v1 == 12)))] [.cells [(.bool false), (.bool false), (.int .i64 0), (.bool false), (.bool false)]] (by kernel_rfl) ?_
                      refine AR_fin (by kernel_rfl) ?_
                      refine AE_seqN ?_
                      rcases Bool.eq_false_or_eq_true (v1 == 12) with h20 | h20
                      · replace h := bifT h20 h
                        refine AW_ifT (q := (v1 == 12)) (by kernel_rfl) h20 ?_
                        refine AW_seq ?_
                        refine AW_reg ?_
                        refine AR_many hT 3 [2, 3] [(2, (.ptr 0 0)), (3, (.bool true))] [.cells [(.bool false), (.bool false), (.int .i64 1), (.bool true), (.bool true)]] (by kernel_rfl) ?_
                        refine AR_fin (by kernel_rfl) ?_
                        refine AE_seqN ?_
                        refine AE_ret ?_
                        refine AE_blkR ?_
                        refine AE_seqR ?_
                        refine AE_keep [2, 3] (env' := [(2, (.ptr 0 0)), (3, (.bool true))]) (by kernel_rfl) ?_
                        simp only [Option.some.injEq, Prod.mk.injEq] at h
                        obtain ⟨rfl, rfl, rfl, rfl, rfl, rfl⟩ := h
                        exact AE_done ⟨trivial, by kernel_rfl, by kernel_rfl, by simp [AV.low, AV.lows, AObj.low], by simp [AV.low, AV.lows, AObj.low]⟩
                      · replace h := bifF h20 h
                        refine AW_ifF (q := (v1 == 12)) (by kernel_rfl) h20 ?_
                        refine AW_seq ?_
                        refine AW_reg ?_
                        refine AR_many hT 2 [2, 4, 35] [(2, (.ptr 0 0)), (4, (.int .i64 v1)), (35, (.bool (v1 == 13)))] [.cells [(.bool false), (.bool false), (.int .i64 0), (.bool false), (.bool false)]] (by kernel_rfl) ?_
                        refine AR_fin (by kernel_rfl) ?_
                        refine AE_seqN ?_
                        rcases Bool.eq_false_or_eq_true (v1 == 13) with h21 | h21
                        · replace h := bifT h21 h
                          refine AW_ifT (q := (v1 == 13)) (by kernel_rfl) h21 ?_
                          refine AW_seq ?_
                          refine AW_reg ?_
                          refine AR_many hT 3 [2, 3] [(2, (.ptr 0 0)), (3, (.bool true))] [.cells [(.bool true), (.bool false), (.int .i64 1), (.bool true), (.bool false)]] (by kernel_rfl) ?_
                          refine AR_fin (by kernel_rfl) ?_
                          refine AE_seqN ?_
                          refine AE_ret ?_
                          refine AE_blkR ?_
                          refine AE_seqR ?_
                          refine AE_keep [2, 3] (env' := [(2, (.ptr 0 0)), (3, (.bool true))]) (by kernel_rfl) ?_
                          simp only [Option.some.injEq, Prod.mk.injEq] at h
                          obtain ⟨rfl, rfl, rfl, rfl, rfl, rfl⟩ := h
                          exact AE_done ⟨trivial, by kernel_rfl, by kernel_rfl, by simp [AV.low, AV.lows, AObj.low], by simp [AV.low, AV.lows, AObj.low]⟩
                        · replace h := bifF h21 h
                          refine AW_ifF (q := (v1 == 13)) (by kernel_rfl) h21 ?_
                          refine AW_seq ?_
                          refine AW_reg ?_
                          refine AR_many hT 2 [2, 38] [(2, (.ptr 0 0)), (38, (.bool (v1 == 16)))] [.cells [(.bool false), (.bool false), (.int .i64 0), (.bool false), (.bool false)]] (by kernel_rfl) ?_
                          refine AR_fin (by kernel_rfl) ?_
                          refine AE_seqN ?_
                          rcases Bool.eq_false_or_eq_true (v1 == 16) with h22 | h22
                          · replace h := bifT h22 h
                            refine AW_ifT (q := (v1 == 16)) (by kernel_rfl) h22 ?_
                            refine AW_seq ?_
                            refine AW_reg ?_
                            refine AR_many hT 3 [2, 3] [(2, (.ptr 0 0)), (3, (.bool true))] [.cells [(.bool false), (.bool false), (.int .i64 1), (.bool false), (.bool false)]] (by kernel_rfl) ?_
                            refine AR_fin (by kernel_rfl) ?_
                            refine AE_seqN ?_
                            refine AE_ret ?_
                            refine AE_blkR ?_
                            refine AE_seqR ?_
                            refine AE_keep [2, 3] (env' := [(2, (.ptr 0 0)), (3, (.bool true))]) (by kernel_rfl) ?_
                            simp only [Option.some.injEq, Prod.mk.injEq] at h
                            obtain ⟨rfl, rfl, rfl, rfl, rfl, rfl⟩ := h
                            exact AE_done ⟨trivial, by kernel_rfl, by kernel_rfl, by simp [AV.low, AV.lows, AObj.low], by simp [AV.low, AV.lows, AObj.low]⟩
                          · replace h := bifF h22 h
                            refine AW_ifF (q := (v1 == 16)) (by kernel_rfl) h22 ?_
                            refine AE_skip ?_
                            refine AE_blkN ?_
                            refine AE_seqN ?_
                            refine AW_seq ?_
                            refine AW_reg ?_
                            refine AR_many hT 3 [2, 3] [(2, (.ptr 0 0)), (3, (.bool false))] [.cells [(.bool false), (.bool false), (.int .i64 0), (.bool false), (.bool false)]] (by kernel_rfl) ?_
                            refine AR_fin (by kernel_rfl) ?_
                            refine AE_seqN ?_
                            refine AE_ret ?_
                            refine AE_keep [2, 3] (env' := [(2, (.ptr 0 0)), (3, (.bool false))]) (by kernel_rfl) ?_
                            simp only [Option.some.injEq, Prod.mk.injEq] at h
                            obtain ⟨rfl, rfl, rfl, rfl, rfl, rfl⟩ := h
                            exact AE_done ⟨trivial, by kernel_rfl, by kernel_rfl, by simp [AV.low, AV.lows, AObj.low], by simp [AV.low, AV.lows, AObj.low]⟩

def F120 (k : Nat) (v1 : ByteArray) (v2 : Bool) : Option (Bool) :=
  (bif v2 then
    ((F75 k v1).bind fun v3 =>
      some (v3))
  else
    some ((v1.toList == (ByteArray.mk #[]).toList)))

theorem F120_ok (k : Nat) : ∀ (v1 : ByteArray) (v2 : Bool) (r1 : Bool), F120 k v1 v2 = some (r1) → Fn prog 120 [(.str v1), (.bool v2)] [] (.bool r1) [] := by
  intro v1 v2 r1 h
  rw [F120] at h
  refine Fn_bodyK hT Go.Proofs.Try.func120 (c := Go.Proofs.Try.f120.body.getD .skip) (by kernel_rfl) (by kernel_rfl) (by kernel_rfl) ?_
  refine AW_seq ?_
  refine AW_reg ?_
  refine AR_many hT 1 [0, 1] [(0, (.str v1)), (1, (.bool v2))] [] (by kernel_rfl) ?_
  refine AR_fin (by kernel_rfl) ?_
  refine AE_seqN ?_
  refine AW_seq ?_
  refine AW_seq ?_
  refine AW_reg ?_
  refine AR_many hT 1 [0, 5] [(0, (.str v1)), (5, (.bool v2))] [] (by kernel_rfl) ?_
  refine AR_fin (by kernel_rfl) ?_
  refine AE_seqN ?_
  rcases Bool.eq_false_or_eq_true v2 with h1 | h1
  · replace h := bifT h1 h
    refine AW_ifT (q := v2) (by kernel_rfl) h1 ?_
    refine AW_seq ?_
    obtain ⟨v3, h2, h⟩ := Option.bind_eq_some_iff.mp h
    try dsimp only at h
    refine AW_reg ?_
    refine AR_many hT 1 [6] [(6, (.str v1))] [] (by kernel_rfl) ?_
    refine AR_op (by kernel_rfl) (OpJ_callK (g := 75) (args := [(.str v1)]) (by kernel_rfl) Go.Proofs.Try.func75 (by kernel_rfl) (by kernel_rfl) (Fn_pure (F75_ok k v1 v3 h2) (by simp [AV.low, AV.lows, AObj.low]) (by simp [AV.low, AV.lows, AObj.low]))) ?_
    refine AR_many hT 1 [4] [(4, (.bool v3))] [] (by kernel_rfl) ?_
    refine AR_fin (by kernel_rfl) ?_
    refine AE_seqN ?_
    refine AE_ret ?_
    refine AE_seqR ?_
    refine AE_keep [4] (env' := [(4, (.bool v3))]) (by kernel_rfl) ?_
    simp only [Option.some.injEq] at h
    subst h
    exact AE_done ⟨trivial, by kernel_rfl, by kernel_rfl, by simp [AV.low, AV.lows, AObj.low], by simp [AV.low, AV.lows, AObj.low]⟩
  · replace h := bifF h1 h
    refine AW_ifF (q := v2) (by kernel_rfl) h1 ?_
    refine AE_skip ?_
    refine AE_seqN ?_
    refine AW_seq ?_
    refine AW_reg ?_
    refine AR_many hT 3 [4] [(4, (.bool (v1.toList == (ByteArray.mk #[]).toList)))] [] (by kernel_rfl) ?_
    refine AR_fin (by kernel_rfl) ?_
    refine AE_seqN ?_
    refine AE_ret ?_
    refine AE_keep [4] (env' := [(4, (.bool (v1.toList == (ByteArray.mk #[]).toList)))]) (by kernel_rfl) ?_
    simp only [Option.some.injEq] at h
    subst h
    exact AE_done ⟨trivial, by kernel_rfl, by kernel_rfl, by simp [AV.low, AV.lows, AObj.low], by simp [AV.low, AV.lows, AObj.low]⟩

def F110_j2 (k20 : Nat) (v1 : ByteArray) (v4 : Bool) : Option (Int) :=
  (bif v4 then
    some (3)
  else
    (bif (v1.toList == (ByteArray.mk #[38, 38]).toList) then
      some (2)
    else
      (bif (v1.toList == (ByteArray.mk #[124, 124]).toList) then
        some (1)
      else
        some (0))))

def F110_j1 (k12 : Nat) (v1 : ByteArray) (v3 : Bool) : Option (Int) :=
  (bif v3 then
    some (4)
  else
    (bif (v1.toList == (ByteArray.mk #[61, 61]).toList) then
      F110_j2 k12 v1 (v1.toList == (ByteArray.mk #[61, 61]).toList)
    else
      (bif (v1.toList == (ByteArray.mk #[33, 61]).toList) then
        F110_j2 k12 v1 (v1.toList == (ByteArray.mk #[33, 61]).toList)
      else
        (bif (v1.toList == (ByteArray.mk #[60]).toList) then
          F110_j2 k12 v1 (v1.toList == (ByteArray.mk #[60]).toList)
        else
          (bif (v1.toList == (ByteArray.mk #[60, 61]).toList) then
            F110_j2 k12 v1 (v1.toList == (ByteArray.mk #[60, 61]).toList)
          else
            (bif (v1.toList == (ByteArray.mk #[62]).toList) then
              F110_j2 k12 v1 (v1.toList == (ByteArray.mk #[62]).toList)
            else
              F110_j2 k12 v1 (v1.toList == (ByteArray.mk #[62, 61]).toList)))))))

def F110_j0 (k6 : Nat) (v1 : ByteArray) (v2 : Bool) : Option (Int) :=
  (bif v2 then
    some (5)
  else
    (bif (v1.toList == (ByteArray.mk #[43]).toList) then
      F110_j1 k6 v1 (v1.toList == (ByteArray.mk #[43]).toList)
    else
      (bif (v1.toList == (ByteArray.mk #[45]).toList) then
        F110_j1 k6 v1 (v1.toList == (ByteArray.mk #[45]).toList)
      else
        (bif (v1.toList == (ByteArray.mk #[124]).toList) then
          F110_j1 k6 v1 (v1.toList == (ByteArray.mk #[124]).toList)
        else
          F110_j1 k6 v1 (v1.toList == (ByteArray.mk #[94]).toList)))))

def F110 (k : Nat) (v1 : ByteArray) : Option (Int) :=
  (bif (v1.toList == (ByteArray.mk #[42]).toList) then
    F110_j0 k v1 (v1.toList == (ByteArray.mk #[42]).toList)
  else
    (bif (v1.toList == (ByteArray.mk #[47]).toList) then
      F110_j0 k v1 (v1.toList == (ByteArray.mk #[47]).toList)
    else
      (bif (v1.toList == (ByteArray.mk #[37]).toList) then
        F110_j0 k v1 (v1.toList == (ByteArray.mk #[37]).toList)
      else
        (bif (v1.toList == (ByteArray.mk #[60, 60]).toList) then
          F110_j0 k v1 (v1.toList == (ByteArray.mk #[60, 60]).toList)
        else
          (bif (v1.toList == (ByteArray.mk #[62, 62]).toList) then
            F110_j0 k v1 (v1.toList == (ByteArray.mk #[62, 62]).toList)
          else
            F110_j0 k v1 (v1.toList == (ByteArray.mk #[38]).toList))))))

theorem F110_ok (k : Nat) : ∀ (v1 : ByteArray) (r1 : Int), F110 k v1 = some (r1) → Fn prog 110 [(.str v1)] [] (.int .i64 r1) [] := by
  intro v1 r1 h
  rw [F110] at h
  refine Fn_bodyK hT Go.Proofs.Try.func110 (c := Go.Proofs.Try.f110.body.getD .skip) (by kernel_rfl) (by kernel_rfl) (by kernel_rfl) ?_
  refine AW_seq ?_
  refine AW_reg ?_
  refine AR_many hT 1 [0] [(0, (.str v1))] [] (by kernel_rfl) ?_
  refine AR_fin (by kernel_rfl) ?_
  refine AE_seqN ?_
  refine AW_seq ?_
  refine AW_seq ?_
  refine AW_reg ?_
  refine AR_many hT 1 [3] [(3, (.str v1))] [] (by kernel_rfl) ?_
  refine AR_fin (by kernel_rfl) ?_
  refine AE_seqN ?_
  refine AW_block ?_
  refine AW_join (fun env L => ∃ (v2 : Bool), env = [(3, (.str v1)), (4, (.bool v2))] ∧ L = [] ∧ ∃ n, n ≤ k ∧ F110_j0 n v1 v2 = some (r1)) ?_ ?_
  · refine AW_seq ?_
    refine AW_reg ?_
    refine AR_many hT 2 [3, 4] [(3, (.str v1)), (4, (.bool (v1.toList == (ByteArray.mk #[42]).toList)))] [] (by kernel_rfl) ?_
    refine AR_fin (by kernel_rfl) ?_
    refine AE_seqN ?_
    rcases Bool.eq_false_or_eq_true (v1.toList == (ByteArray.mk #[42]).toList) with h1 | h1
    · replace h := bifT h1 h
      refine AW_ifT (q := (v1.toList == (ByteArray.mk #[42]).toList)) (by kernel_rfl) h1 ?_
      refine AE_skip ?_
      refine AE_keep [3, 4] (env' := [(3, (.str v1)), (4, (.bool (v1.toList == (ByteArray.mk #[42]).toList)))]) (by kernel_rfl) ?_
      exact AE_done ⟨(v1.toList == (ByteArray.mk #[42]).toList), rfl, rfl, k, Nat.le_refl _, h⟩
    · replace h := bifF h1 h
      refine AW_ifF (q := (v1.toList == (ByteArray.mk #[42]).toList)) (by kernel_rfl) h1 ?_
      refine AW_seq ?_
      refine AW_reg ?_
      refine AR_many hT 2 [3, 4] [(3, (.str v1)), (4, (.bool (v1.toList == (ByteArray.mk #[47]).toList)))] [] (by kernel_rfl) ?_
      refine AR_fin (by kernel_rfl) ?_
      refine AE_seqN ?_
      rcases Bool.eq_false_or_eq_true (v1.toList == (ByteArray.mk #[47]).toList) with h2 | h2
      · replace h := bifT h2 h
        refine AW_ifT (q := (v1.toList == (ByteArray.mk #[47]).toList)) (by kernel_rfl) h2 ?_
        refine AE_skip ?_
        refine AE_keep [3, 4] (env' := [(3, (.str v1)), (4, (.bool (v1.toList == (ByteArray.mk #[47]).toList)))]) (by kernel_rfl) ?_
        exact AE_done ⟨(v1.toList == (ByteArray.mk #[47]).toList), rfl, rfl, k, Nat.le_refl _, h⟩
      · replace h := bifF h2 h
        refine AW_ifF (q := (v1.toList == (ByteArray.mk #[47]).toList)) (by kernel_rfl) h2 ?_
        refine AW_seq ?_
        refine AW_reg ?_
        refine AR_many hT 2 [3, 4] [(3, (.str v1)), (4, (.bool (v1.toList == (ByteArray.mk #[37]).toList)))] [] (by kernel_rfl) ?_
        refine AR_fin (by kernel_rfl) ?_
        refine AE_seqN ?_
        rcases Bool.eq_false_or_eq_true (v1.toList == (ByteArray.mk #[37]).toList) with h3 | h3
        · replace h := bifT h3 h
          refine AW_ifT (q := (v1.toList == (ByteArray.mk #[37]).toList)) (by kernel_rfl) h3 ?_
          refine AE_skip ?_
          refine AE_keep [3, 4] (env' := [(3, (.str v1)), (4, (.bool (v1.toList == (ByteArray.mk #[37]).toList)))]) (by kernel_rfl) ?_
          exact AE_done ⟨(v1.toList == (ByteArray.mk #[37]).toList), rfl, rfl, k, Nat.le_refl _, h⟩
        · replace h := bifF h3 h
          refine AW_ifF (q := (v1.toList == (ByteArray.mk #[37]).toList)) (by kernel_rfl) h3 ?_
          refine AW_seq ?_
          refine AW_reg ?_
          refine AR_many hT 2 [3, 4] [(3, (.str v1)), (4, (.bool (v1.toList == (ByteArray.mk #[60, 60]).toList)))] [] (by kernel_rfl) ?_
          refine AR_fin (by kernel_rfl) ?_
          refine AE_seqN ?_
          rcases Bool.eq_false_or_eq_true (v1.toList == (ByteArray.mk #[60, 60]).toList) with h4 | h4
          · replace h := bifT h4 h
            refine AW_ifT (q := (v1.toList == (ByteArray.mk #[60, 60]).toList)) (by kernel_rfl) h4 ?_
            refine AE_skip ?_
            refine AE_keep [3, 4] (env' := [(3, (.str v1)), (4, (.bool (v1.toList == (ByteArray.mk #[60, 60]).toList)))]) (by kernel_rfl) ?_
            exact AE_done ⟨(v1.toList == (ByteArray.mk #[60, 60]).toList), rfl, rfl, k, Nat.le_refl _, h⟩
          · replace h := bifF h4 h
            refine AW_ifF (q := (v1.toList == (ByteArray.mk #[60, 60]).toList)) (by kernel_rfl) h4 ?_
            refine AW_seq ?_
            refine AW_reg ?_
            refine AR_many hT 2 [3, 4] [(3, (.str v1)), (4, (.bool (v1.toList == (ByteArray.mk #[62, 62]).toList)))] [] (by kernel_rfl) ?_
            refine AR_fin (by kernel_rfl) ?_
            refine AE_seqN ?_
            rcases Bool.eq_false_or_eq_true (v1.toList == (ByteArray.mk #[62, 62]).toList) with h5 | h5
            · replace h := bifT h5 h
              refine AW_ifT (q := (v1.toList == (ByteArray.mk #[62, 62]).toList)) (by kernel_rfl) h5 ?_
              refine AE_skip ?_
              refine AE_keep [3, 4] (env' := [(3, (.str v1)), (4, (.bool (v1.toList == (ByteArray.mk #[62, 62]).toList)))]) (by kernel_rfl) ?_
              exact AE_done ⟨(v1.toList == (ByteArray.mk #[62, 62]).toList), rfl, rfl, k, Nat.le_refl _, h⟩
            · replace h := bifF h5 h
              refine AW_ifF (q := (v1.toList == (ByteArray.mk #[62, 62]).toList)) (by kernel_rfl) h5 ?_
              refine AW_reg ?_
              refine AR_many hT 2 [3, 4] [(3, (.str v1)), (4, (.bool (v1.toList == (ByteArray.mk #[38]).toList)))] [] (by kernel_rfl) ?_
              refine AR_fin (by kernel_rfl) ?_
              refine AE_keep [3, 4] (env' := [(3, (.str v1)), (4, (.bool (v1.toList == (ByteArray.mk #[38]).toList)))]) (by kernel_rfl) ?_
              exact AE_done ⟨(v1.toList == (ByteArray.mk #[38]).toList), rfl, rfl, k, Nat.le_refl _, h⟩
  · rintro _ _ ⟨v2, rfl, rfl, n, hn, h⟩
    obtain ⟨k6, rfl⟩ : ∃ q, q = n := ⟨n, rfl⟩
    rw [F110_j0] at h
    rcases Bool.eq_false_or_eq_true v2 with h8 | h8
    · replace h := bifT h8 h
      refine AW_ifT (q := v2) (by kernel_rfl) h8 ?_
      refine AW_seq ?_
      refine AW_reg ?_
      refine AR_many hT 1 [2] [(2, (.int .i64 5))] [] (by kernel_rfl) ?_
      refine AR_fin (by kernel_rfl) ?_
      refine AE_seqN ?_
      refine AE_ret ?_
      refine AE_blkR ?_
      refine AE_seqR ?_
      refine AE_keep [2] (env' := [(2, (.int .i64 5))]) (by kernel_rfl) ?_
      simp only [Option.some.injEq] at h
      subst h
      exact AE_done ⟨trivial, by kernel_rfl, by kernel_rfl, by simp [AV.low, AV.lows, AObj.low], by simp [AV.low, AV.lows, AObj.low]⟩
    · replace h := bifF h8 h
      refine AW_ifF (q := v2) (by kernel_rfl) h8 ?_
      refine AW_join (fun env L => ∃ (v3 : Bool), env = [(3, (.str v1)), (11, (.bool v3))] ∧ L = [] ∧ ∃ n, n ≤ k6 ∧ F110_j1 n v1 v3 = some (r1)) ?_ ?_
      · refine AW_seq ?_
        refine AW_reg ?_
        refine AR_many hT 2 [3, 11] [(3, (.str v1)), (11, (.bool (v1.toList == (ByteArray.mk #[43]).toList)))] [] (by kernel_rfl) ?_
        refine AR_fin (by kernel_rfl) ?_
        refine AE_seqN ?_
        rcases Bool.eq_false_or_eq_true (v1.toList == (ByteArray.mk #[43]).toList) with h9 | h9
        · replace h := bifT h9 h
          refine AW_ifT (q := (v1.toList == (ByteArray.mk #[43]).toList)) (by kernel_rfl) h9 ?_
          refine AE_skip ?_
          refine AE_keep [3, 11] (env' := [(3, (.str v1)), (11, (.bool (v1.toList == (ByteArray.mk #[43]).toList)))]) (by kernel_rfl) ?_
          exact AE_done ⟨(v1.toList == (ByteArray.mk #[43]).toList), rfl, rfl, k6, Nat.le_refl _, h⟩
        · replace h := bifF h9 h
          refine AW_ifF (q := (v1.toList == (ByteArray.mk #[43]).toList)) (by kernel_rfl) h9 ?_
          refine AW_seq ?_
          refine AW_reg ?_
          refine AR_many hT 2 [3, 11] [(3, (.str v1)), (11, (.bool (v1.toList == (ByteArray.mk #[45]).toList)))] [] (by kernel_rfl) ?_
          refine AR_fin (by kernel_rfl) ?_
          refine AE_seqN ?_
          rcases Bool.eq_false_or_eq_true (v1.toList == (ByteArray.mk #[45]).toList) with h10 | h10
          · replace h := bifT h10 h
            refine AW_ifT (q := (v1.toList == (ByteArray.mk #[45]).toList)) (by kernel_rfl) h10 ?_
            refine AE_skip ?_
            refine AE_keep [3, 11] (env' := [(3, (.str v1)), (11, (.bool (v1.toList == (ByteArray.mk #[45]).toList)))]) (by kernel_rfl) ?_
            exact AE_done ⟨(v1.toList == (ByteArray.mk #[45]).toList), rfl, rfl, k6, Nat.le_refl _, h⟩
          · replace h := bifF h10 h
            refine AW_ifF (q := (v1.toList == (ByteArray.mk #[45]).toList)) (by kernel_rfl) h10 ?_
            refine AW_seq ?_
            refine AW_reg ?_
            refine AR_many hT 2 [3, 11] [(3, (.str v1)), (11, (.bool (v1.toList == (ByteArray.mk #[124]).toList)))] [] (by kernel_rfl) ?_
            refine AR_fin (by kernel_rfl) ?_
            refine AE_seqN ?_
            rcases Bool.eq_false_or_eq_true (v1.toList == (ByteArray.mk #[124]).toList) with h11 | h11
            · replace h := bifT h11 h
              refine AW_ifT (q := (v1.toList == (ByteArray.mk #[124]).toList)) (by kernel_rfl) h11 ?_
              refine AE_skip ?_
              refine AE_keep [3, 11] (env' := [(3, (.str v1)), (11, (.bool (v1.toList == (ByteArray.mk #[124]).toList)))]) (by kernel_rfl) ?_
              exact AE_done ⟨(v1.toList == (ByteArray.mk #[124]).toList), rfl, rfl, k6, Nat.le_refl _, h⟩
            · replace h := bifF h11 h
              refine AW_ifF (q := (v1.toList == (ByteArray.mk #[124]).toList)) (by kernel_rfl) h11 ?_
              refine AW_reg ?_
              refine AR_many hT 2 [3, 11] [(3, (.str v1)), (11, (.bool (v1.toList == (ByteArray.mk #[94]).toList)))] [] (by kernel_rfl) ?_
              refine AR_fin (by kernel_rfl) ?_
              refine AE_keep [3, 11] (env' := [(3, (.str v1)), (11, (.bool (v1.toList == (ByteArray.mk #[94]).toList)))]) (by kernel_rfl) ?_
              exact AE_done ⟨(v1.toList == (ByteArray.mk #[94]).toList), rfl, rfl, k6, Nat.le_refl _, h⟩
      · rintro _ _ ⟨v3, rfl, rfl, n, hn, h⟩
        obtain ⟨k12, rfl⟩ : ∃ q, q = n := ⟨n, rfl⟩
        rw [F110_j1] at h
        rcases Bool.eq_false_or_eq_true v3 with h14 | h14
        · replace h := bifT h14 h
          refine AW_ifT (q := v3) (by kernel_rfl) h14 ?_
          refine AW_seq ?_
          refine AW_reg ?_
          refine AR_many hT 1 [2] [(2, (.int .i64 4))] [] (by kernel_rfl) ?_
          refine AR_fin (by kernel_rfl) ?_
          refine AE_seqN ?_
          refine AE_ret ?_
          refine AE_blkR ?_
          refine AE_seqR ?_
          refine AE_keep [2] (env' := [(2, (.int .i64 4))]) (by kernel_rfl) ?_
          simp only [Option.some.injEq] at h
          subst h
          exact AE_done ⟨trivial, by kernel_rfl, by kernel_rfl, by simp [AV.low, AV.lows, AObj.low], by simp [AV.low, AV.lows, AObj.low]⟩
        · replace h := bifF h14 h
          refine AW_ifF (q := v3) (by kernel_rfl) h14 ?_
          refine AW_join (fun env L => ∃ (v4 : Bool), env = [(3, (.str v1)), (16, (.bool v4))] ∧ L = [] ∧ ∃ n, n ≤ k12 ∧ F110_j2 n v1 v4 = some (r1)) ?_ ?_
          · refine AW_seq ?_
            refine AW_reg ?_
            refine AR_many hT 2 [3, 16] [(3, (.str v1)), (16, (.bool (v1.toList == (ByteArray.mk #[61, 61]).toList)))] [] (by kernel_rfl) ?_
            refine AR_fin (by kernel_rfl) ?_
            refine AE_seqN ?_
            rcases Bool.eq_false_or_eq_true (v1.toList == (ByteArray.mk #[61, 61]).toList) with h15 | h15
            · replace h := bifT h15 h
              refine AW_ifT (q := (v1.toList == (ByteArray.mk #[61, 61]).toList)) (by kernel_rfl) h15 ?_
              refine AE_skip ?_
              refine AE_keep [3, 16] (env' := [(3, (.str v1)), (16, (.bool (v1.toList == (ByteArray.mk #[61, 61]).toList)))]) (by kernel_rfl) ?_
              exact AE_done ⟨(v1.toList == (ByteArray.mk #[61, 61]).toList), rfl, rfl, k12, Nat.le_refl _, h⟩
            · replace h := bifF h15 h
              refine AW_ifF (q := (v1.toList == (ByteArray.mk #[61, 61]).toList)) (by kernel_rfl) h15 ?_
              refine AW_seq ?_
              refine AW_reg ?_
              refine AR_many hT 2 [3, 16] [(3, (.str v1)), (16, (.bool (v1.toList == (ByteArray.mk #[33, 61]).toList)))] [] (by kernel_rfl) ?_
              refine AR_fin (by kernel_rfl) ?_
              refine AE_seqN ?_
              rcases Bool.eq_false_or_eq_true (v1.toList == (ByteArray.mk #[33, 61]).toList) with h16 | h16
              · replace h := bifT h16 h
                refine AW_ifT (q := (v1.toList == (ByteArray.mk #[33, 61]).toList)) (by kernel_rfl) h16 ?_
                refine AE_skip ?_
                refine AE_keep [3, 16] (env' := [(3, (.str v1)), (16, (.bool (v1.toList == (ByteArray.mk #[33, 61]).toList)))]) (by kernel_rfl) ?_
                exact AE_done ⟨(v1.toList == (ByteArray.mk #[33, 61]).toList), rfl, rfl, k12, Nat.le_refl _, h⟩
              · replace h := bifF h16 h
                refine AW_ifF (q := (v1.toList == (ByteArray.mk #[33, 61]).toList)) (by kernel_rfl) h16 ?_
                refine AW_seq ?_
                refine AW_reg ?_
                refine AR_many hT 2 [3, 16] [(3, (.str v1)), (16, (.bool (v1.toList == (ByteArray.mk #[60]).toList)))] [] (by kernel_rfl) ?_
                refine AR_fin (by kernel_rfl) ?_
                refine AE_seqN ?_
                rcases Bool.eq_false_or_eq_true (v1.toList == (ByteArray.mk #[60]).toList) with h17 | h17
                · replace h := bifT h17 h
                  refine AW_ifT (q := (v1.toList == (ByteArray.mk #[60]).toList)) (by kernel_rfl) h17 ?_
                  refine AE_skip ?_
                  refine AE_keep [3, 16] (env' := [(3, (.str v1)), (16, (.bool (v1.toList == (ByteArray.mk #[60]).toList)))]) (by kernel_rfl) ?_
                  exact AE_done ⟨(v1.toList == (ByteArray.mk #[60]).toList), rfl, rfl, k12, Nat.le_refl _, h⟩
                · replace h := bifF h17 h
                  refine AW_ifF (q := (v1.toList == (ByteArray.mk #[60]).toList)) (by kernel_rfl) h17 ?_
                  refine AW_seq ?_
                  refine AW_reg ?_
                  refine AR_many hT 2 [3, 16] [(3, (.str v1)), (16, (.bool (v1.toList == (ByteArray.mk #[60, 61]).toList)))] [] (by kernel_rfl) ?_
                  refine AR_fin (by kernel_rfl) ?_
                  refine AE_seqN ?_
                  rcases Bool.eq_false_or_eq_true (v1.toList == (ByteArray.mk #[60, 61]).toList) with h18 | h18
                  · replace h := bifT h18 h
                    refine AW_ifT (q := (v1.toList == (ByteArray.mk #[60, 61]).toList)) (by kernel_rfl) h18 ?_
                    refine AE_skip ?_
                    refine AE_keep [3, 16] (env' := [(3, (.str v1)), (16, (.bool (v1.toList == (ByteArray.mk #[60, 61]).toList)))]) (by kernel_rfl) ?_
                    exact AE_done ⟨(v1.toList == (ByteArray.mk #[60, 61]).toList), rfl, rfl, k12, Nat.le_refl _, h⟩
                  · replace h := bifF h18 h
                    refine AW_ifF (q := (v1.toList == (ByteArray.mk #[60, 61]).toList)) (by kernel_rfl) h18 ?_
                    refine AW_seq ?_
                    refine AW_reg ?_
                    refine AR_many hT 2 [3, 16] [(3, (.str v1)), (16, (.bool (v1.toList == (ByteArray.mk #[62]).toList)))] [] (by kernel_rfl) ?_
                    refine AR_fin (by kernel_rfl) ?_
                    refine AE_seqN ?_
                    rcases Bool.eq_false_or_eq_true (v1.toList == (ByteArray.mk #[62]).toList) with h19 | h19
                    · replace h := bifT h19 h
                      refine AW_ifT (q := (v1.toList == (ByteArray.mk #[62]).toList)) (by kernel_rfl) h19 ?_
                      refine AE_skip ?_
                      refine AE_keep [3, 16] (env' := [(3, (.str v1)), (16, (.bool (v1.toList == (ByteArray.mk #[62]).toList)))]) (by kernel_rfl) ?_
                      exact AE_done ⟨(v1.toList == (ByteArray.mk #[62]).toList), rfl, rfl, k12, Nat.le_refl _, h⟩
                    · replace h := bifF h19 h
                      refine AW_ifF (q := (v1.toList == (ByteArray.mk #[62]).toList)) (by kernel_rfl) h19 ?_
                      refine AW_reg ?_
                      refine AR_many hT 2 [3, 16] [(3, (.str v1)), (16, (.bool (v1.toList == (ByteArray.mk #[62, 61]).toList)))] [] (by kernel_rfl) ?_
                      refine AR_fin (by kernel_rfl) ?_
                      refine AE_keep [3, 16] (env' := [(3, (.str v1)), (16, (.bool (v1.toList == (ByteArray.mk #[62, 61]).toList)))]) (by kernel_rfl) ?_
                      exact AE_done ⟨(v1.toList == (ByteArray.mk #[62, 61]).toList), rfl, rfl, k12, Nat.le_refl _, h⟩
          · rintro _ _ ⟨v4, rfl, rfl, n, hn, h⟩
            obtain ⟨k20, rfl⟩ : ∃ q, q = n := ⟨n, rfl⟩
            rw [F110_j2] at h
            rcases Bool.eq_false_or_eq_true v4 with h22 | h22
            · replace h := bifT h22 h
              refine AW_ifT (q := v4) (by kernel_rfl) h22 ?_
              refine AW_seq ?_
              refine AW_reg ?_
              refine AR_many hT 1 [2] [(2, (.int .i64 3))] [] (by kernel_rfl) ?_
              refine AR_fin (by kernel_rfl) ?_
              refine AE_seqN ?_
              refine AE_ret ?_
              refine AE_blkR ?_
              refine AE_seqR ?_
              refine AE_keep [2] (env' := [(2, (.int .i64 3))]) (by kernel_rfl) ?_
              simp only [Option.some.injEq] at h
              subst h
              exact AE_done ⟨trivial, by kernel_rfl, by kernel_rfl, by simp [AV.low, AV.lows, AObj.low], by simp [AV.low, AV.lows, AObj.low]⟩
            · replace h := bifF h22 h
              refine AW_ifF (q := v4) (by kernel_rfl) h22 ?_
              refine AW_seq ?_
              refine AW_reg ?_
              refine AR_many hT 2 [3, 23] [(3, (.str v1)), (23, (.bool (v1.toList == (ByteArray.mk #[38, 38]).toList)))] [] (by kernel_rfl) ?_
              refine AR_fin (by kernel_rfl) ?_
              refine AE_seqN ?_
              rcases Bool.eq_false_or_eq_true (v1.toList == (ByteArray.mk #[38, 38]).toList) with h23 | h23
              · replace h := bifT h23 h
                refine AW_ifT (q := (v1.toList == (ByteArray.mk #[38, 38]).toList)) (by kernel_rfl) h23 ?_
                refine AW_seq ?_
                refine AW_reg ?_
                refine AR_many hT 1 [2] [(2, (.int .i64 2))] [] (by kernel_rfl) ?_
                refine AR_fin (by kernel_rfl) ?_
                refine AE_seqN ?_
                refine AE_ret ?_
                refine AE_blkR ?_
                refine AE_seqR ?_
                refine AE_keep [2] (env' := [(2, (.int .i64 2))]) (by kernel_rfl) ?_
                simp only [Option.some.injEq] at h
                subst h
                exact AE_done ⟨trivial, by kernel_rfl, by kernel_rfl, by simp [AV.low, AV.lows, AObj.low], by simp [AV.low, AV.lows, AObj.low]⟩
              · replace h := bifF h23 h
                refine AW_ifF (q := (v1.toList == (ByteArray.mk #[38, 38]).toList)) (by kernel_rfl) h23 ?_
                refine AW_seq ?_
                refine AW_reg ?_
                refine AR_many hT 2 [25] [(25, (.bool (v1.toList == (ByteArray.mk #[124, 124]).toList)))] [] (by kernel_rfl) ?_
                refine AR_fin (by kernel_rfl) ?_
                refine AE_seqN ?_
                rcases Bool.eq_false_or_eq_true (v1.toList == (ByteArray.mk #[124, 124]).toList) with h24 | h24
                · replace h := bifT h24 h
                  refine AW_ifT (q := (v1.toList == (ByteArray.mk #[124, 124]).toList)) (by kernel_rfl) h24 ?_
                  refine AW_seq ?_
                  refine AW_reg ?_
                  refine AR_many hT 1 [2] [(2, (.int .i64 1))] [] (by kernel_rfl) ?_
                  refine AR_fin (by kernel_rfl) ?_
                  refine AE_seqN ?_
                  refine AE_ret ?_
                  refine AE_blkR ?_
                  refine AE_seqR ?_
                  refine AE_keep [2] (env' := [(2, (.int .i64 1))]) (by kernel_rfl) ?_
                  simp only [Option.some.injEq] at h
                  subst h
                  exact AE_done ⟨trivial, by kernel_rfl, by kernel_rfl, by simp [AV.low, AV.lows, AObj.low], by simp [AV.low, AV.lows, AObj.low]⟩
                · replace h := bifF h24 h
                  refine AW_ifF (q := (v1.toList == (ByteArray.mk #[124, 124]).toList)) (by kernel_rfl) h24 ?_
                  refine AE_skip ?_
                  refine AE_blkN ?_
                  refine AE_seqN ?_
                  refine AW_seq ?_
                  refine AW_reg ?_
                  refine AR_many hT 1 [2] [(2, (.int .i64 0))] [] (by kernel_rfl) ?_
                  refine AR_fin (by kernel_rfl) ?_
                  refine AE_seqN ?_
                  refine AE_ret ?_
                  refine AE_keep [2] (env' := [(2, (.int .i64 0))]) (by kernel_rfl) ?_
                  simp only [Option.some.injEq] at h
                  subst h
                  exact AE_done ⟨trivial, by kernel_rfl, by kernel_rfl, by simp [AV.low, AV.lows, AObj.low], by simp [AV.low, AV.lows, AObj.low]⟩
end Go.Vm
