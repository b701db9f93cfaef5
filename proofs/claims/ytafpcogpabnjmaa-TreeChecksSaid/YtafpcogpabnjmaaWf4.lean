/- Printed by gen.py: functions of the program as Lean functions, and that they do what these say. -/
import Derived.Test.YtafpcogpabnjmaaWf3
set_option linter.unusedVariables false
set_option linter.unusedSimpArgs false
set_option linter.unusedSectionVars false
set_option maxRecDepth 20000
namespace Go.Vm
mutual
def F39 : Nat → (List T69) → Int → Option (Int × Int)
  | 0, _, _ => none
  | k + 1, v1, v2 =>
    F39_l0 k v1 v2 0 0 0
def F39_j1 : Nat → (List T69) → Int → Int → Int → Int → Bool → Int → ByteArray → ByteArray → (List T57) → (List T69) → (List T69) → Option (Int × Int)
  | 0, _, _, _, _, _, _, _, _, _, _, _, _ => none
  | k7 + 1, v1, v2, v13, v14, v15, v16, v17, v18, v19, v20, v21, v22 =>
    (bif v16 then
      some ((-1), 0)
    else
      ((F80 k7 ).bind fun v24 =>
        ((idx v24 v17).bind fun ⟨v25, v26, v27, v28, v29⟩ =>
          ((F81 k7 v18 v25).bind fun v46 =>
            (bif (!v46) then
              F39_j2 k7 v1 v2 v13 v14 v15 true v20 v21 v22
            else
              ((F81 k7 v19 v26).bind fun v47 =>
                (bif (!v47) then
                  F39_j2 k7 v1 v2 v13 v14 v15 true v20 v21 v22
                else
                  (bif (((l57 v20).length : Int) != v27) then
                    F39_j2 k7 v1 v2 v13 v14 v15 true v20 v21 v22
                  else
                    (bif (v28 == 0) then
                      (bif (decide (((l69 v21).length : Int) > 0)) then
                        F39_j2 k7 v1 v2 v13 v14 v15 true v20 v21 v22
                      else
                        (bif (v29 == 0) then
                          F39_j2 k7 v1 v2 v13 v14 v15 (decide (((l69 v22).length : Int) > 0)) v20 v21 v22
                        else
                          F39_j2 k7 v1 v2 v13 v14 v15 false v20 v21 v22))
                    else
                      (bif (v29 == 0) then
                        F39_j2 k7 v1 v2 v13 v14 v15 (decide (((l69 v22).length : Int) > 0)) v20 v21 v22
                      else
                        F39_j2 k7 v1 v2 v13 v14 v15 false v20 v21 v22))))))))))
def F39_j2 : Nat → (List T69) → Int → Int → Int → Int → Bool → (List T57) → (List T69) → (List T69) → Option (Int × Int)
  | 0, _, _, _, _, _, _, _, _, _ => none
  | k21 + 1, v1, v2, v30, v31, v32, v33, v37, v38, v39 =>
    (bif v33 then
      some ((-1), 0)
    else
      ((F39 k21 v38 (IntKind.wrap .i64 (v2 - 1))).bind fun ⟨v48, v49⟩ =>
        ((F39 k21 v39 (IntKind.wrap .i64 (v2 - 1))).bind fun ⟨v50, v51⟩ =>
          (bif (decide (v48 < 0)) then
            F39_j3 k21 v1 v2 v30 v31 v32 v48 v49 v50 v51 true v37
          else
            F39_j3 k21 v1 v2 v30 v31 v32 v48 v49 v50 v51 (decide (v50 < 0)) v37))))
def F39_j3 : Nat → (List T69) → Int → Int → Int → Int → Int → Int → Int → Int → Bool → (List T57) → Option (Int × Int)
  | 0, _, _, _, _, _, _, _, _, _, _, _ => none
  | k27 + 1, v1, v2, v52, v53, v54, v55, v56, v57, v58, v59, v63 =>
    (bif v59 then
      some ((-1), 0)
    else
      F39_l4 k27 v1 v2 v52 v54 v55 v56 v57 v58 v63 v53 0)
def F39_j5 : Nat → (List T69) → Int → Int → Int → Int → Bool → Option (Int × Int)
  | 0, _, _, _, _, _, _ => none
  | k37 + 1, v1, v2, v81, v82, v83, v84 =>
    (bif v84 then
      some ((-1), 0)
    else
      F39_l0 k37 v1 v2 v81 v82 (IntKind.wrap .i64 (v83 + 1)))
def F39_l0 : Nat → (List T69) → Int → Int → Int → Int → Option (Int × Int)
  | 0, _, _, _, _, _ => none
  | k1 + 1, v1, v2, v3, v4, v5 =>
    (bif (decide (v5 < ((l69 v1).length : Int))) then
      ((idx v1 v5).bind fun ⟨v6, v7, v8, v9, v10, v11, v12⟩ =>
        (bif (decide (v2 < 1)) then
          F39_j1 k1 v1 v2 v3 v4 v5 true v6 v7 v8 v9 v10 v11
        else
          (bif (decide (v6 < 1)) then
            F39_j1 k1 v1 v2 v3 v4 v5 true v6 v7 v8 v9 v10 v11
          else
            F39_j1 k1 v1 v2 v3 v4 v5 (decide (v6 > 16)) v6 v7 v8 v9 v10 v11)))
    else
      some (v3, v4))
def F39_l4 : Nat → (List T69) → Int → Int → Int → Int → Int → Int → Int → (List T57) → Int → Int → Option (Int × Int)
  | 0, _, _, _, _, _, _, _, _, _, _, _ => none
  | k30 + 1, v1, v2, v52, v54, v55, v56, v57, v58, v63, v72, v73 =>
    (bif (decide (v73 < ((l57 v63).length : Int))) then
      ((idx v63 v73).bind fun ⟨v74, v75, v76, v77, v78, v79⟩ =>
        ((F82 k30 v74 v75 v76 v77 v78 v79 12).bind fun v80 =>
          (bif (decide (v80 < 0)) then
            some ((-1), 0)
          else
            F39_l4 k30 v1 v2 v52 v54 v55 v56 v57 v58 v63 (IntKind.wrap .i64 (v72 + v80)) (IntKind.wrap .i64 (v73 + 1)))))
    else
      (bif (decide ((IntKind.wrap .i64 ((IntKind.wrap .i64 ((IntKind.wrap .i64 (v52 + 1)) + v55)) + v57)) > 200)) then
        F39_j5 k30 v1 v2 (IntKind.wrap .i64 ((IntKind.wrap .i64 ((IntKind.wrap .i64 (v52 + 1)) + v55)) + v57)) (IntKind.wrap .i64 ((IntKind.wrap .i64 (v72 + v56)) + v58)) v54 true
      else
        F39_j5 k30 v1 v2 (IntKind.wrap .i64 ((IntKind.wrap .i64 ((IntKind.wrap .i64 (v52 + 1)) + v55)) + v57)) (IntKind.wrap .i64 ((IntKind.wrap .i64 (v72 + v56)) + v58)) v54 (decide ((IntKind.wrap .i64 ((IntKind.wrap .i64 (v72 + v56)) + v58)) > 8192))))
end

theorem F39_step (K0 : Nat) (ih_F39 : ∀ k, k < K0 → ∀ (v1 : (List T69)) (v2 : Int) (r1 : Int) (r2 : Int), F39 k v1 v2 = some (r1, r2) → Fn prog 39 [(.sl (l69 v1)), (.int .i64 v2)] [] (.tup [(.int .i64 r1), (.int .i64 r2)]) []) : ∀ (v1 : (List T69)) (v2 : Int) (r1 : Int) (r2 : Int), F39 K0 v1 v2 = some (r1, r2) → Fn prog 39 [(.sl (l69 v1)), (.int .i64 v2)] [] (.tup [(.int .i64 r1), (.int .i64 r2)]) [] := by
  intro v1 v2 r1 r2 h
  cases K0 with
  | zero => rw [F39] at h; cases h
  | succ k =>
    have hk : k < k + 1 := Nat.lt_succ_self k
    rw [F39] at h
    refine Fn_bodyK hT Go.Proofs.Try.func39 (c := Go.Proofs.Try.f39.body.getD .skip) (by kernel_rfl) (by kernel_rfl) (by kernel_rfl) ?_
    refine AW_seq ?_
    refine AW_reg ?_
    refine AR_many hT 2 [0, 1] [(0, (.sl (l69 v1))), (1, (.int .i64 v2))] [] (by kernel_rfl) ?_
    refine AR_fin (by kernel_rfl) ?_
    refine AE_seqN ?_
    refine AW_seq ?_
    refine AW_reg ?_
    refine AR_many hT 2 [0, 1, 6, 7] [(0, (.sl (l69 v1))), (1, (.int .i64 v2)), (6, (.int .i64 0)), (7, (.int .i64 0))] [] (by kernel_rfl) ?_
    refine AR_fin (by kernel_rfl) ?_
    refine AE_seqN ?_
    refine AW_seq ?_
    refine AW_seq ?_
    refine AW_reg ?_
    refine AR_many hT 1 [0, 1, 6, 7, 8] [(0, (.sl (l69 v1))), (1, (.int .i64 v2)), (6, (.int .i64 0)), (7, (.int .i64 0)), (8, (.int .i64 0))] [] (by kernel_rfl) ?_
    refine AR_fin (by kernel_rfl) ?_
    refine AE_seqN ?_
    refine AW_block ?_
    refine AW_keep [0, 1, 6, 7, 8] (env' := [(0, (.sl (l69 v1))), (1, (.int .i64 v2)), (6, (.int .i64 0)), (7, (.int .i64 0)), (8, (.int .i64 0))]) (by kernel_rfl) ?_
    refine AW_loop (fun n env L => n ≤ k ∧ ∃ (v3 : Int) (v4 : Int) (v5 : Int), env = [(0, (.sl (l69 v1))), (1, (.int .i64 v2)), (6, (.int .i64 v3)), (7, (.int .i64 v4)), (8, (.int .i64 v5))] ∧ L = [] ∧ F39_l0 n v1 v2 v3 v4 v5 = some (r1, r2)) k ⟨Nat.le_refl _, 0, 0, 0, rfl, rfl, h⟩ ?_
    rintro n _ _ ⟨hn, v3, v4, v5, rfl, rfl, h⟩
    cases n with
    | zero => rw [F39_l0] at h; cases h
    | succ k1 =>
      have h2 : k1 < (k + 1) := by omega
      rw [F39_l0] at h
      refine AW_seq ?_
      refine AW_seq ?_
      refine AW_reg ?_
      refine AR_many hT 4 [0, 1, 6, 7, 8, 20] [(0, (.sl (l69 v1))), (1, (.int .i64 v2)), (6, (.int .i64 v3)), (7, (.int .i64 v4)), (8, (.int .i64 v5)), (20, (.bool (decide (v5 < ((l69 v1).length : Int)))))] [] (by kernel_rfl) ?_
      refine AR_fin (by kernel_rfl) ?_
      refine AE_seqN ?_
      rcases Bool.eq_false_or_eq_true (decide (v5 < ((l69 v1).length : Int))) with h3 | h3
      · replace h := bifT h3 h
        refine AW_ifT (q := (decide (v5 < ((l69 v1).length : Int)))) (by kernel_rfl) h3 ?_
        refine AE_skip ?_
        refine AE_seqN ?_
        refine AW_seq ?_
        refine AW_block ?_
        refine AW_seq ?_
        obtain ⟨⟨v6, v7, v8, v9, v10, v11, v12⟩, h4, h⟩ := Option.bind_eq_some_iff.mp h
        try dsimp only at h
        refine AW_reg ?_
        refine AR_many hT 2 [0, 1, 6, 7, 8, 23, 24] [(0, (.sl (l69 v1))), (1, (.int .i64 v2)), (6, (.int .i64 v3)), (7, (.int .i64 v4)), (8, (.int .i64 v5)), (23, (.sl (l69 v1))), (24, (.int .i64 v5))] [] (by kernel_rfl) ?_
        refine AR_op (by kernel_rfl) (OpJ_indexK hT (xs := l69 v1) (j := v5) (n := 7) (by kernel_rfl) (i69 h4) (by kernel_rfl)) ?_
        refine AR_many hT 3 [0, 1, 6, 7, 8, 9] [(0, (.sl (l69 v1))), (1, (.int .i64 v2)), (6, (.int .i64 v3)), (7, (.int .i64 v4)), (8, (.int .i64 v5)), (9, (.ptr 0 0))] [.cells [(.int .i64 v6), (.str v7), (.str v8), (.sl (l57 v9)), (.sl (l69 v10)), (.sl (l69 v11)), (.int .i64 v12)]] (by kernel_rfl) ?_
        refine AR_fin (by kernel_rfl) ?_
        refine AE_seqN ?_
        refine AW_seq ?_
        refine AW_join (fun env L => ∃ (v13 : Int) (v14 : Int) (v15 : Int) (v16 : Bool) (v17 : Int) (v18 : ByteArray) (v19 : ByteArray) (v20 : (List T57)) (v21 : (List T69)) (v22 : (List T69)) (v23 : Int), env = [(0, (.sl (l69 v1))), (1, (.int .i64 v2)), (6, (.int .i64 v13)), (7, (.int .i64 v14)), (8, (.int .i64 v15)), (9, (.ptr 0 0)), (38, (.bool v16))] ∧ L = [.cells [(.int .i64 v17), (.str v18), (.str v19), (.sl (l57 v20)), (.sl (l69 v21)), (.sl (l69 v22)), (.int .i64 v23)]] ∧ ∃ n, n ≤ k1 ∧ F39_j1 n v1 v2 v13 v14 v15 v16 v17 v18 v19 v20 v21 v22 = some (r1, r2)) ?_ ?_
        · rcases Bool.eq_false_or_eq_true (decide (v2 < 1)) with h5 | h5
          · replace h := bifT h5 h
            refine AW_reg ?_
            refine AR_many hT 2 [0, 1, 6, 7, 8, 9, 28] [(0, (.sl (l69 v1))), (1, (.int .i64 v2)), (6, (.int .i64 v3)), (7, (.int .i64 v4)), (8, (.int .i64 v5)), (9, (.ptr 0 0)), (28, (.bool (decide (v2 < 1))))] [.cells [(.int .i64 v6), (.str v7), (.str v8), (.sl (l57 v9)), (.sl (l69 v10)), (.sl (l69 v11)), (.int .i64 v12)]] (by kernel_rfl) ?_
            refine AR_op (by kernel_rfl) (OpJ_boolK hT (q := (decide (v2 < 1))) (by kernel_rfl) h5) ?_
            refine AR_many hT 9 [0, 1, 6, 7, 8, 9, 38] [(0, (.sl (l69 v1))), (1, (.int .i64 v2)), (6, (.int .i64 v3)), (7, (.int .i64 v4)), (8, (.int .i64 v5)), (9, (.ptr 0 0)), (38, (.bool true))] [.cells [(.int .i64 v6), (.str v7), (.str v8), (.sl (l57 v9)), (.sl (l69 v10)), (.sl (l69 v11)), (.int .i64 v12)]] (by kernel_rfl) ?_
            refine AR_fin (by kernel_rfl) ?_
            refine AE_keep [0, 1, 6, 7, 8, 9, 38] (env' := [(0, (.sl (l69 v1))), (1, (.int .i64 v2)), (6, (.int .i64 v3)), (7, (.int .i64 v4)), (8, (.int .i64 v5)), (9, (.ptr 0 0)), (38, (.bool true))]) (by kernel_rfl) ?_
            exact AE_done ⟨v3, v4, v5, true, v6, v7, v8, v9, v10, v11, v12, rfl, rfl, k1, Nat.le_refl _, h⟩
          · replace h := bifF h5 h
            rcases Bool.eq_false_or_eq_true (decide (v6 < 1)) with h6 | h6
            · replace h := bifT h6 h
              refine AW_reg ?_
              refine AR_many hT 2 [0, 1, 6, 7, 8, 9, 28] [(0, (.sl (l69 v1))), (1, (.int .i64 v2)), (6, (.int .i64 v3)), (7, (.int .i64 v4)), (8, (.int .i64 v5)), (9, (.ptr 0 0)), (28, (.bool (decide (v2 < 1))))] [.cells [(.int .i64 v6), (.str v7), (.str v8), (.sl (l57 v9)), (.sl (l69 v10)), (.sl (l69 v11)), (.int .i64 v12)]] (by kernel_rfl) ?_
              refine AR_op (by kernel_rfl) (OpJ_boolK hT (q := (decide (v2 < 1))) (by kernel_rfl) h5) ?_
              refine AR_many hT 4 [0, 1, 6, 7, 8, 9, 33] [(0, (.sl (l69 v1))), (1, (.int .i64 v2)), (6, (.int .i64 v3)), (7, (.int .i64 v4)), (8, (.int .i64 v5)), (9, (.ptr 0 0)), (33, (.bool (decide (v6 < 1))))] [.cells [(.int .i64 v6), (.str v7), (.str v8), (.sl (l57 v9)), (.sl (l69 v10)), (.sl (l69 v11)), (.int .i64 v12)]] (by kernel_rfl) ?_
              refine AR_op (by kernel_rfl) (OpJ_boolK hT (q := (decide (v6 < 1))) (by kernel_rfl) h6) ?_
              refine AR_many hT 4 [0, 1, 6, 7, 8, 9, 38] [(0, (.sl (l69 v1))), (1, (.int .i64 v2)), (6, (.int .i64 v3)), (7, (.int .i64 v4)), (8, (.int .i64 v5)), (9, (.ptr 0 0)), (38, (.bool true))] [.cells [(.int .i64 v6), (.str v7), (.str v8), (.sl (l57 v9)), (.sl (l69 v10)), (.sl (l69 v11)), (.int .i64 v12)]] (by kernel_rfl) ?_
              refine AR_fin (by kernel_rfl) ?_
              refine AE_keep [0, 1, 6, 7, 8, 9, 38] (env' := [(0, (.sl (l69 v1))), (1, (.int .i64 v2)), (6, (.int .i64 v3)), (7, (.int .i64 v4)), (8, (.int .i64 v5)), (9, (.ptr 0 0)), (38, (.bool true))]) (by kernel_rfl) ?_
              exact AE_done ⟨v3, v4, v5, true, v6, v7, v8, v9, v10, v11, v12, rfl, rfl, k1, Nat.le_refl _, h⟩
            · replace h := bifF h6 h
              refine AW_reg ?_
              refine AR_many hT 2 [0, 1, 6, 7, 8, 9, 28] [(0, (.sl (l69 v1))), (1, (.int .i64 v2)), (6, (.int .i64 v3)), (7, (.int .i64 v4)), (8, (.int .i64 v5)), (9, (.ptr 0 0)), (28, (.bool (decide (v2 < 1))))] [.cells [(.int .i64 v6), (.str v7), (.str v8), (.sl (l57 v9)), (.sl (l69 v10)), (.sl (l69 v11)), (.int .i64 v12)]] (by kernel_rfl) ?_
              refine AR_op (by kernel_rfl) (OpJ_boolK hT (q := (decide (v2 < 1))) (by kernel_rfl) h5) ?_
              refine AR_many hT 4 [0, 1, 6, 7, 8, 9, 33] [(0, (.sl (l69 v1))), (1, (.int .i64 v2)), (6, (.int .i64 v3)), (7, (.int .i64 v4)), (8, (.int .i64 v5)), (9, (.ptr 0 0)), (33, (.bool (decide (v6 < 1))))] [.cells [(.int .i64 v6), (.str v7), (.str v8), (.sl (l57 v9)), (.sl (l69 v10)), (.sl (l69 v11)), (.int .i64 v12)]] (by kernel_rfl) ?_
              refine AR_op (by kernel_rfl) (OpJ_boolK hT (q := (decide (v6 < 1))) (by kernel_rfl) h6) ?_
              refine AR_many hT 4 [0, 1, 6, 7, 8, 9, 38] [(0, (.sl (l69 v1))), (1, (.int .i64 v2)), (6, (.int .i64 v3)), (7, (.int .i64 v4)), (8, (.int .i64 v5)), (9, (.ptr 0 0)), (38, (.bool (decide (v6 > 16))))] [.cells [(.int .i64 v6), (.str v7), (.str v8), (.sl (l57 v9)), (.sl (l69 v10)), (.sl (l69 v11)), (.int .i64 v12)]] (by kernel_rfl) ?_
              refine AR_fin (by kernel_rfl) ?_
              refine AE_keep [0, 1, 6, 7, 8, 9, 38] (env' := [(0, (.sl (l69 v1))), (1, (.int .i64 v2)), (6, (.int .i64 v3)), (7, (.int .i64 v4)), (8, (.int .i64 v5)), (9, (.ptr 0 0)), (38, (.bool (decide (v6 > 16))))]) (by kernel_rfl) ?_
              exact AE_done ⟨v3, v4, v5, (decide (v6 > 16)), v6, v7, v8, v9, v10, v11, v12, rfl, rfl, k1, Nat.le_refl _, h⟩
        · rintro _ _ ⟨v13, v14, v15, v16, v17, v18, v19, v20, v21, v22, v23, rfl, rfl, n, hn, h⟩
          obtain _ | k7 := n
          · rw [F39_j1] at h; cases h
          have h8 : k7 < (k + 1) := by omega
          rw [F39_j1] at h
          rcases Bool.eq_false_or_eq_true v16 with h9 | h9
          · replace h := bifT h9 h
            refine AW_ifT (q := v16) (by kernel_rfl) h9 ?_
            refine AW_seq ?_
            refine AW_reg ?_
            refine AR_many hT 2 [4, 5] [(4, (.int .i64 (-1))), (5, (.int .i64 0))] [.cells [(.int .i64 v17), (.str v18), (.str v19), (.sl (l57 v20)), (.sl (l69 v21)), (.sl (l69 v22)), (.int .i64 v23)]] (by kernel_rfl) ?_
            refine AR_fin (by kernel_rfl) ?_
            refine AE_seqN ?_
            refine AE_ret ?_
            refine AE_seqR ?_
            refine AE_blkR ?_
            refine AE_seqR ?_
            refine AE_seqR ?_
            refine AE_blkR ?_
            refine AE_seqR ?_
            refine AE_keep [4, 5] (env' := [(4, (.int .i64 (-1))), (5, (.int .i64 0))]) (by kernel_rfl) ?_
            simp only [Option.some.injEq, Prod.mk.injEq] at h
            obtain ⟨rfl, rfl⟩ := h
            exact AE_done ⟨trivial, by kernel_rfl, by kernel_rfl, by simp [AV.low, AV.lows, AObj.low], by simp [AV.low, AV.lows, AObj.low]⟩
          · replace h := bifF h9 h
            refine AW_ifF (q := v16) (by kernel_rfl) h9 ?_
            refine AE_skip ?_
            refine AE_seqN ?_
            refine AW_seq ?_
            obtain ⟨v24, h10, h⟩ := Option.bind_eq_some_iff.mp h
            try dsimp only at h
            obtain ⟨⟨v25, v26, v27, v28, v29⟩, h11, h⟩ := Option.bind_eq_some_iff.mp h
            try dsimp only at h
            refine AW_drx hmix [⟨(.sl (l119 v24)), [], 0, 1, false⟩, ⟨(.ptr 0 0), [], 0, 1, false⟩, ⟨(.int .i64 v17), [1], 0, 1, false⟩, ⟨(.rp [(.int .i64 v25), (.int .i64 v26), (.int .i64 v27), (.int .i64 v28), (.int .i64 v29)]), [0, 1, 2], 0, 1, false⟩, ⟨(.agg [(.int .i64 v25), (.int .i64 v26), (.int .i64 v27), (.int .i64 v28), (.int .i64 v29)]), [0, 1, 2, 3], 0, 1, false⟩, ⟨(.ptr 1 0), [], 0, 0, true⟩, ⟨.any, [0, 1, 2, 3, 4, 5], 1, 1, true⟩] [5, 6] (fun p => match p with | 0 => [.cells [(.int .i64 v17), (.str v18), (.str v19), (.sl (l57 v20)), (.sl (l69 v21)), (.sl (l69 v22)), (.int .i64 v23)]] | 1 => [.cells [(.int .i64 v17), (.str v18), (.str v19), (.sl (l57 v20)), (.sl (l69 v21)), (.sl (l69 v22)), (.int .i64 v23)], .cells [(.int .i64 0), (.int .i64 0), (.int .i64 0), (.int .i64 0), (.int .i64 0)]] | _ => [.cells [(.int .i64 v17), (.str v18), (.str v19), (.sl (l57 v20)), (.sl (l69 v21)), (.sl (l69 v22)), (.int .i64 v23)], .cells [(.int .i64 v25), (.int .i64 v26), (.int .i64 v27), (.int .i64 v28), (.int .i64 v29)]]) [0, 1, 6, 7, 8, 9, 10] [(0, (.sl (l69 v1))), (1, (.int .i64 v2)), (6, (.int .i64 v13)), (7, (.int .i64 v14)), (8, (.int .i64 v15)), (9, (.ptr 0 0)), (10, (.ptr 1 0))] [.cells [(.int .i64 v17), (.str v18), (.str v19), (.sl (l57 v20)), (.sl (l69 v21)), (.sl (l69 v22)), (.int .i64 v23)], .cells [(.int .i64 v25), (.int .i64 v26), (.int .i64 v27), (.int .i64 v28), (.int .i64 v29)]] (by kernel_rfl) rfl rfl (by kernel_rfl) ?_ ?_
            · refine SA_tell (v := (.sl (l119 v24))) (by kernel_rfl) (by kernel_rfl) (by kernel_rfl) (fun L => (OpJ_callK (g := 80) (args := []) (by kernel_rfl) Go.Proofs.Try.func80 (by kernel_rfl) (by kernel_rfl) (Fn_pure (F80_ok k7  v24 h10) (by simp [AV.low, AV.lows, AObj.low]) (by simp [AV.low, AV.lows, AObj.low])))) ?_
              refine SA_plain hT 2 (by kernel_rfl) ?_
              refine SA_tell (v := (.rp [(.int .i64 v25), (.int .i64 v26), (.int .i64 v27), (.int .i64 v28), (.int .i64 v29)])) (by kernel_rfl) (by kernel_rfl) (by kernel_rfl) (fun L => (OpJ_indexK hT (xs := l119 v24) (j := v17) (n := 5) (by kernel_rfl) (i119 h11) (by kernel_rfl))) ?_
              refine SA_plain hT 3 (by kernel_rfl) ?_
              exact SA_end (by kernel_rfl)
            refine AE_seqN ?_
            refine AW_seq ?_
            refine AW_join (fun env L => ∃ (v30 : Int) (v31 : Int) (v32 : Int) (v33 : Bool) (v34 : Int) (v35 : ByteArray) (v36 : ByteArray) (v37 : (List T57)) (v38 : (List T69)) (v39 : (List T69)) (v40 : Int) (v41 : Int) (v42 : Int) (v43 : Int) (v44 : Int) (v45 : Int), env = [(0, (.sl (l69 v1))), (1, (.int .i64 v2)), (6, (.int .i64 v30)), (7, (.int .i64 v31)), (8, (.int .i64 v32)), (9, (.ptr 0 0)), (87, (.bool v33))] ∧ L = [.cells [(.int .i64 v34), (.str v35), (.str v36), (.sl (l57 v37)), (.sl (l69 v38)), (.sl (l69 v39)), (.int .i64 v40)], .cells [(.int .i64 v41), (.int .i64 v42), (.int .i64 v43), (.int .i64 v44), (.int .i64 v45)]] ∧ ∃ n, n ≤ k7 ∧ F39_j2 n v1 v2 v30 v31 v32 v33 v37 v38 v39 = some (r1, r2)) ?_ ?_
            · obtain ⟨v46, h12, h⟩ := Option.bind_eq_some_iff.mp h
              try dsimp only at h
              rcases Bool.eq_false_or_eq_true (!v46) with h13 | h13
              · replace h := bifT h13 h
                refine AW_reg ?_
                refine AR_many hT 4 [0, 1, 6, 7, 8, 9, 10, 45, 47] [(0, (.sl (l69 v1))), (1, (.int .i64 v2)), (6, (.int .i64 v13)), (7, (.int .i64 v14)), (8, (.int .i64 v15)), (9, (.ptr 0 0)), (10, (.ptr 1 0)), (45, (.str v18)), (47, (.int .i64 v25))] [.cells [(.int .i64 v17), (.str v18), (.str v19), (.sl (l57 v20)), (.sl (l69 v21)), (.sl (l69 v22)), (.int .i64 v23)], .cells [(.int .i64 v25), (.int .i64 v26), (.int .i64 v27), (.int .i64 v28), (.int .i64 v29)]] (by kernel_rfl) ?_
                refine AR_op (by kernel_rfl) (OpJ_callK (g := 81) (args := [(.str v18), (.int .i64 v25)]) (by kernel_rfl) Go.Proofs.Try.func81 (by kernel_rfl) (by kernel_rfl) (Fn_pure (F81_ok k7 v18 v25 v46 h12) (by simp [AV.low, AV.lows, AObj.low]) (by simp [AV.low, AV.lows, AObj.low]))) ?_
                refine AR_many hT 1 [0, 1, 6, 7, 8, 9, 10, 49] [(0, (.sl (l69 v1))), (1, (.int .i64 v2)), (6, (.int .i64 v13)), (7, (.int .i64 v14)), (8, (.int .i64 v15)), (9, (.ptr 0 0)), (10, (.ptr 1 0)), (49, (.bool (!v46)))] [.cells [(.int .i64 v17), (.str v18), (.str v19), (.sl (l57 v20)), (.sl (l69 v21)), (.sl (l69 v22)), (.int .i64 v23)], .cells [(.int .i64 v25), (.int .i64 v26), (.int .i64 v27), (.int .i64 v28), (.int .i64 v29)]] (by kernel_rfl) ?_
                refine AR_op (by kernel_rfl) (OpJ_boolK hT (q := (!v46)) (by kernel_rfl) h13) ?_
                refine AR_many hT 37 [0, 1, 6, 7, 8, 9, 87] [(0, (.sl (l69 v1))), (1, (.int .i64 v2)), (6, (.int .i64 v13)), (7, (.int .i64 v14)), (8, (.int .i64 v15)), (9, (.ptr 0 0)), (87, (.bool true))] [.cells [(.int .i64 v17), (.str v18), (.str v19), (.sl (l57 v20)), (.sl (l69 v21)), (.sl (l69 v22)), (.int .i64 v23)], .cells [(.int .i64 v25), (.int .i64 v26), (.int .i64 v27), (.int .i64 v28), (.int .i64 v29)]] (by kernel_rfl) ?_
                refine AR_fin (by kernel_rfl) ?_
                refine AE_keep [0, 1, 6, 7, 8, 9, 87] (env' := [(0, (.sl (l69 v1))), (1, (.int .i64 v2)), (6, (.int .i64 v13)), (7, (.int .i64 v14)), (8, (.int .i64 v15)), (9, (.ptr 0 0)), (87, (.bool true))]) (by kernel_rfl) ?_
                exact AE_done ⟨v13, v14, v15, true, v17, v18, v19, v20, v21, v22, v23, v25, v26, v27, v28, v29, rfl, rfl, k7, Nat.le_refl _, h⟩
              · replace h := bifF h13 h
                obtain ⟨v47, h14, h⟩ := Option.bind_eq_some_iff.mp h
                try dsimp only at h
                rcases Bool.eq_false_or_eq_true (!v47) with h15 | h15
                · replace h := bifT h15 h
                  refine AW_reg ?_
                  refine AR_many hT 4 [0, 1, 6, 7, 8, 9, 10, 45, 47] [(0, (.sl (l69 v1))), (1, (.int .i64 v2)), (6, (.int .i64 v13)), (7, (.int .i64 v14)), (8, (.int .i64 v15)), (9, (.ptr 0 0)), (10, (.ptr 1 0)), (45, (.str v18)), (47, (.int .i64 v25))] [.cells [(.int .i64 v17), (.str v18), (.str v19), (.sl (l57 v20)), (.sl (l69 v21)), (.sl (l69 v22)), (.int .i64 v23)], .cells [(.int .i64 v25), (.int .i64 v26), (.int .i64 v27), (.int .i64 v28), (.int .i64 v29)]] (by kernel_rfl) ?_
                  refine AR_op (by kernel_rfl) (OpJ_callK (g := 81) (args := [(.str v18), (.int .i64 v25)]) (by kernel_rfl) Go.Proofs.Try.func81 (by kernel_rfl) (by kernel_rfl) (Fn_pure (F81_ok k7 v18 v25 v46 h12) (by simp [AV.low, AV.lows, AObj.low]) (by simp [AV.low, AV.lows, AObj.low]))) ?_
                  refine AR_many hT 1 [0, 1, 6, 7, 8, 9, 10, 49] [(0, (.sl (l69 v1))), (1, (.int .i64 v2)), (6, (.int .i64 v13)), (7, (.int .i64 v14)), (8, (.int .i64 v15)), (9, (.ptr 0 0)), (10, (.ptr 1 0)), (49, (.bool (!v46)))] [.cells [(.int .i64 v17), (.str v18), (.str v19), (.sl (l57 v20)), (.sl (l69 v21)), (.sl (l69 v22)), (.int .i64 v23)], .cells [(.int .i64 v25), (.int .i64 v26), (.int .i64 v27), (.int .i64 v28), (.int .i64 v29)]] (by kernel_rfl) ?_
                  refine AR_op (by kernel_rfl) (OpJ_boolK hT (q := (!v46)) (by kernel_rfl) h13) ?_
                  refine AR_many hT 4 [0, 1, 6, 7, 8, 9, 10, 50, 52, 54] [(0, (.sl (l69 v1))), (1, (.int .i64 v2)), (6, (.int .i64 v13)), (7, (.int .i64 v14)), (8, (.int .i64 v15)), (9, (.ptr 0 0)), (10, (.ptr 1 0)), (50, (.bool false)), (52, (.str v19)), (54, (.int .i64 v26))] [.cells [(.int .i64 v17), (.str v18), (.str v19), (.sl (l57 v20)), (.sl (l69 v21)), (.sl (l69 v22)), (.int .i64 v23)], .cells [(.int .i64 v25), (.int .i64 v26), (.int .i64 v27), (.int .i64 v28), (.int .i64 v29)]] (by kernel_rfl) ?_
                  refine AR_op (by kernel_rfl) (OpJ_callK (g := 81) (args := [(.str v19), (.int .i64 v26)]) (by kernel_rfl) Go.Proofs.Try.func81 (by kernel_rfl) (by kernel_rfl) (Fn_pure (F81_ok k7 v19 v26 v47 h14) (by simp [AV.low, AV.lows, AObj.low]) (by simp [AV.low, AV.lows, AObj.low]))) ?_
                  refine AR_many hT 2 [0, 1, 6, 7, 8, 9, 10, 57] [(0, (.sl (l69 v1))), (1, (.int .i64 v2)), (6, (.int .i64 v13)), (7, (.int .i64 v14)), (8, (.int .i64 v15)), (9, (.ptr 0 0)), (10, (.ptr 1 0)), (57, (.bool (!v47)))] [.cells [(.int .i64 v17), (.str v18), (.str v19), (.sl (l57 v20)), (.sl (l69 v21)), (.sl (l69 v22)), (.int .i64 v23)], .cells [(.int .i64 v25), (.int .i64 v26), (.int .i64 v27), (.int .i64 v28), (.int .i64 v29)]] (by kernel_rfl) ?_
                  refine AR_op (by kernel_rfl) (OpJ_boolK hT (q := (!v47)) (by kernel_rfl) h15) ?_
                  refine AR_many hT 29 [0, 1, 6, 7, 8, 9, 87] [(0, (.sl (l69 v1))), (1, (.int .i64 v2)), (6, (.int .i64 v13)), (7, (.int .i64 v14)), (8, (.int .i64 v15)), (9, (.ptr 0 0)), (87, (.bool true))] [.cells [(.int .i64 v17), (.str v18), (.str v19), (.sl (l57 v20)), (.sl (l69 v21)), (.sl (l69 v22)), (.int .i64 v23)], .cells [(.int .i64 v25), (.int .i64 v26), (.int .i64 v27), (.int .i64 v28), (.int .i64 v29)]] (by kernel_rfl) ?_
                  refine AR_fin (by kernel_rfl) ?_
                  refine AE_keep [0, 1, 6, 7, 8, 9, 87] (env' := [(0, (.sl (l69 v1))), (1, (.int .i64 v2)), (6, (.int .i64 v13)), (7, (.int .i64 v14)), (8, (.int .i64 v15)), (9, (.ptr 0 0)), (87, (.bool true))]) (by kernel_rfl) ?_
                  exact AE_done ⟨v13, v14, v15, true, v17, v18, v19, v20, v21, v22, v23, v25, v26, v27, v28, v29, rfl, rfl, k7, Nat.le_refl _, h⟩
                · replace h := bifF h15 h
                  rcases Bool.eq_false_or_eq_true (((l57 v20).length : Int) != v27) with h16 | h16
                  · replace h := bifT h16 h
                    refine AW_reg ?_
                    refine AR_many hT 4 [0, 1, 6, 7, 8, 9, 10, 45, 47] [(0, (.sl (l69 v1))), (1, (.int .i64 v2)), (6, (.int .i64 v13)), (7, (.int .i64 v14)), (8, (.int .i64 v15)), (9, (.ptr 0 0)), (10, (.ptr 1 0)), (45, (.str v18)), (47, (.int .i64 v25))] [.cells [(.int .i64 v17), (.str v18), (.str v19), (.sl (l57 v20)), (.sl (l69 v21)), (.sl (l69 v22)), (.int .i64 v23)], .cells [(.int .i64 v25), (.int .i64 v26), (.int .i64 v27), (.int .i64 v28), (.int .i64 v29)]] (by kernel_rfl) ?_
                    refine AR_op (by kernel_rfl) (OpJ_callK (g := 81) (args := [(.str v18), (.int .i64 v25)]) (by kernel_rfl) Go.Proofs.Try.func81 (by kernel_rfl) (by kernel_rfl) (Fn_pure (F81_ok k7 v18 v25 v46 h12) (by simp [AV.low, AV.lows, AObj.low]) (by simp [AV.low, AV.lows, AObj.low]))) ?_
                    refine AR_many hT 1 [0, 1, 6, 7, 8, 9, 10, 49] [(0, (.sl (l69 v1))), (1, (.int .i64 v2)), (6, (.int .i64 v13)), (7, (.int .i64 v14)), (8, (.int .i64 v15)), (9, (.ptr 0 0)), (10, (.ptr 1 0)), (49, (.bool (!v46)))] [.cells [(.int .i64 v17), (.str v18), (.str v19), (.sl (l57 v20)), (.sl (l69 v21)), (.sl (l69 v22)), (.int .i64 v23)], .cells [(.int .i64 v25), (.int .i64 v26), (.int .i64 v27), (.int .i64 v28), (.int .i64 v29)]] (by kernel_rfl) ?_
                    refine AR_op (by kernel_rfl) (OpJ_boolK hT (q := (!v46)) (by kernel_rfl) h13) ?_
                    refine AR_many hT 4 [0, 1, 6, 7, 8, 9, 10, 50, 52, 54] [(0, (.sl (l69 v1))), (1, (.int .i64 v2)), (6, (.int .i64 v13)), (7, (.int .i64 v14)), (8, (.int .i64 v15)), (9, (.ptr 0 0)), (10, (.ptr 1 0)), (50, (.bool false)), (52, (.str v19)), (54, (.int .i64 v26))] [.cells [(.int .i64 v17), (.str v18), (.str v19), (.sl (l57 v20)), (.sl (l69 v21)), (.sl (l69 v22)), (.int .i64 v23)], .cells [(.int .i64 v25), (.int .i64 v26), (.int .i64 v27), (.int .i64 v28), (.int .i64 v29)]] (by kernel_rfl) ?_
                    refine AR_op (by kernel_rfl) (OpJ_callK (g := 81) (args := [(.str v19), (.int .i64 v26)]) (by kernel_rfl) Go.Proofs.Try.func81 (by kernel_rfl) (by kernel_rfl) (Fn_pure (F81_ok k7 v19 v26 v47 h14) (by simp [AV.low, AV.lows, AObj.low]) (by simp [AV.low, AV.lows, AObj.low]))) ?_
                    refine AR_many hT 2 [0, 1, 6, 7, 8, 9, 10, 57] [(0, (.sl (l69 v1))), (1, (.int .i64 v2)), (6, (.int .i64 v13)), (7, (.int .i64 v14)), (8, (.int .i64 v15)), (9, (.ptr 0 0)), (10, (.ptr 1 0)), (57, (.bool (!v47)))] [.cells [(.int .i64 v17), (.str v18), (.str v19), (.sl (l57 v20)), (.sl (l69 v21)), (.sl (l69 v22)), (.int .i64 v23)], .cells [(.int .i64 v25), (.int .i64 v26), (.int .i64 v27), (.int .i64 v28), (.int .i64 v29)]] (by kernel_rfl) ?_
                    refine AR_op (by kernel_rfl) (OpJ_boolK hT (q := (!v47)) (by kernel_rfl) h15) ?_
                    refine AR_many hT 7 [0, 1, 6, 7, 8, 9, 10, 65] [(0, (.sl (l69 v1))), (1, (.int .i64 v2)), (6, (.int .i64 v13)), (7, (.int .i64 v14)), (8, (.int .i64 v15)), (9, (.ptr 0 0)), (10, (.ptr 1 0)), (65, (.bool (((l57 v20).length : Int) != v27)))] [.cells [(.int .i64 v17), (.str v18), (.str v19), (.sl (l57 v20)), (.sl (l69 v21)), (.sl (l69 v22)), (.int .i64 v23)], .cells [(.int .i64 v25), (.int .i64 v26), (.int .i64 v27), (.int .i64 v28), (.int .i64 v29)]] (by kernel_rfl) ?_
                    refine AR_op (by kernel_rfl) (OpJ_boolK hT (q := (((l57 v20).length : Int) != v27)) (by kernel_rfl) h16) ?_
                    refine AR_many hT 21 [0, 1, 6, 7, 8, 9, 87] [(0, (.sl (l69 v1))), (1, (.int .i64 v2)), (6, (.int .i64 v13)), (7, (.int .i64 v14)), (8, (.int .i64 v15)), (9, (.ptr 0 0)), (87, (.bool true))] [.cells [(.int .i64 v17), (.str v18), (.str v19), (.sl (l57 v20)), (.sl (l69 v21)), (.sl (l69 v22)), (.int .i64 v23)], .cells [(.int .i64 v25), (.int .i64 v26), (.int .i64 v27), (.int .i64 v28), (.int .i64 v29)]] (by kernel_rfl) ?_
                    refine AR_fin (by kernel_rfl) ?_
                    refine AE_keep [0, 1, 6, 7, 8, 9, 87] (env' := [(0, (.sl (l69 v1))), (1, (.int .i64 v2)), (6, (.int .i64 v13)), (7, (.int .i64 v14)), (8, (.int .i64 v15)), (9, (.ptr 0 0)), (87, (.bool true))]) (by kernel_rfl) ?_
                    exact AE_done ⟨v13, v14, v15, true, v17, v18, v19, v20, v21, v22, v23, v25, v26, v27, v28, v29, rfl, rfl, k7, Nat.le_refl _, h⟩
                  · replace h := bifF h16 h
                    rcases Bool.eq_false_or_eq_true (v28 == 0) with h17 | h17
                    · replace h := bifT h17 h
                      rcases Bool.eq_false_or_eq_true (decide (((l69 v21).length : Int) > 0)) with h18 | h18
                      · replace h := bifT h18 h
                        refine AW_reg ?_
                        refine AR_many hT 4 [0, 1, 6, 7, 8, 9, 10, 45, 47] [(0, (.sl (l69 v1))), (1, (.int .i64 v2)), (6, (.int .i64 v13)), (7, (.int .i64 v14)), (8, (.int .i64 v15)), (9, (.ptr 0 0)), (10, (.ptr 1 0)), (45, (.str v18)), (47, (.int .i64 v25))] [.cells [(.int .i64 v17), (.str v18), (.str v19), (.sl (l57 v20)), (.sl (l69 v21)), (.sl (l69 v22)), (.int .i64 v23)], .cells [(.int .i64 v25), (.int .i64 v26), (.int .i64 v27), (.int .i64 v28), (.int .i64 v29)]] (by kernel_rfl) ?_
                        refine AR_op (by kernel_rfl) (OpJ_callK (g := 81) (args := [(.str v18), (.int .i64 v25)]) (by kernel_rfl) Go.Proofs.Try.func81 (by kernel_rfl) (by kernel_rfl) (Fn_pure (F81_ok k7 v18 v25 v46 h12) (by simp [AV.low, AV.lows, AObj.low]) (by simp [AV.low, AV.lows, AObj.low]))) ?_
                        refine AR_many hT 1 [0, 1, 6, 7, 8, 9, 10, 49] [(0, (.sl (l69 v1))), (1, (.int .i64 v2)), (6, (.int .i64 v13)), (7, (.int .i64 v14)), (8, (.int .i64 v15)), (9, (.ptr 0 0)), (10, (.ptr 1 0)), (49, (.bool (!v46)))] [.cells [(.int .i64 v17), (.str v18), (.str v19), (.sl (l57 v20)), (.sl (l69 v21)), (.sl (l69 v22)), (.int .i64 v23)], .cells [(.int .i64 v25), (.int .i64 v26), (.int .i64 v27), (.int .i64 v28), (.int .i64 v29)]] (by kernel_rfl) ?_
                        refine AR_op (by kernel_rfl) (OpJ_boolK hT (q := (!v46)) (by kernel_rfl) h13) ?_
                        refine AR_many hT 4 [0, 1, 6, 7, 8, 9, 10, 50, 52, 54] [(0, (.sl (l69 v1))), (1, (.int .i64 v2)), (6, (.int .i64 v13)), (7, (.int .i64 v14)), (8, (.int .i64 v15)), (9, (.ptr 0 0)), (10, (.ptr 1 0)), (50, (.bool false)), (52, (.str v19)), (54, (.int .i64 v26))] [.cells [(.int .i64 v17), (.str v18), (.str v19), (.sl (l57 v20)), (.sl (l69 v21)), (.sl (l69 v22)), (.int .i64 v23)], .cells [(.int .i64 v25), (.int .i64 v26), (.int .i64 v27), (.int .i64 v28), (.int .i64 v29)]] (by kernel_rfl) ?_
                        refine AR_op (by kernel_rfl) (OpJ_callK (g := 81) (args := [(.str v19), (.int .i64 v26)]) (by kernel_rfl) Go.Proofs.Try.func81 (by kernel_rfl) (by kernel_rfl) (Fn_pure (F81_ok k7 v19 v26 v47 h14) (by simp [AV.low, AV.lows, AObj.low]) (by simp [AV.low, AV.lows, AObj.low]))) ?_
                        refine AR_many hT 2 [0, 1, 6, 7, 8, 9, 10, 57] [(0, (.sl (l69 v1))), (1, (.int .i64 v2)), (6, (.int .i64 v13)), (7, (.int .i64 v14)), (8, (.int .i64 v15)), (9, (.ptr 0 0)), (10, (.ptr 1 0)), (57, (.bool (!v47)))] [.cells [(.int .i64 v17), (.str v18), (.str v19), (.sl (l57 v20)), (.sl (l69 v21)), (.sl (l69 v22)), (.int .i64 v23)], .cells [(.int .i64 v25), (.int .i64 v26), (.int .i64 v27), (.int .i64 v28), (.int .i64 v29)]] (by kernel_rfl) ?_
                        refine AR_op (by kernel_rfl) (OpJ_boolK hT (q := (!v47)) (by kernel_rfl) h15) ?_
                        refine AR_many hT 7 [0, 1, 6, 7, 8, 9, 10, 65] [(0, (.sl (l69 v1))), (1, (.int .i64 v2)), (6, (.int .i64 v13)), (7, (.int .i64 v14)), (8, (.int .i64 v15)), (9, (.ptr 0 0)), (10, (.ptr 1 0)), (65, (.bool (((l57 v20).length : Int) != v27)))] [.cells [(.int .i64 v17), (.str v18), (.str v19), (.sl (l57 v20)), (.sl (l69 v21)), (.sl (l69 v22)), (.int .i64 v23)], .cells [(.int .i64 v25), (.int .i64 v26), (.int .i64 v27), (.int .i64 v28), (.int .i64 v29)]] (by kernel_rfl) ?_
                        refine AR_op (by kernel_rfl) (OpJ_boolK hT (q := (((l57 v20).length : Int) != v27)) (by kernel_rfl) h16) ?_
                        refine AR_many hT 3 [0, 1, 6, 7, 8, 9, 10, 66, 69] [(0, (.sl (l69 v1))), (1, (.int .i64 v2)), (6, (.int .i64 v13)), (7, (.int .i64 v14)), (8, (.int .i64 v15)), (9, (.ptr 0 0)), (10, (.ptr 1 0)), (66, (.bool false)), (69, (.bool (v28 == 0)))] [.cells [(.int .i64 v17), (.str v18), (.str v19), (.sl (l57 v20)), (.sl (l69 v21)), (.sl (l69 v22)), (.int .i64 v23)], .cells [(.int .i64 v25), (.int .i64 v26), (.int .i64 v27), (.int .i64 v28), (.int .i64 v29)]] (by kernel_rfl) ?_
                        refine AR_op (by kernel_rfl) (OpJ_boolK hT (q := (v28 == 0)) (by kernel_rfl) h17) ?_
                        refine AR_many hT 6 [0, 1, 6, 7, 8, 9, 10, 76] [(0, (.sl (l69 v1))), (1, (.int .i64 v2)), (6, (.int .i64 v13)), (7, (.int .i64 v14)), (8, (.int .i64 v15)), (9, (.ptr 0 0)), (10, (.ptr 1 0)), (76, (.bool (decide (((l69 v21).length : Int) > 0))))] [.cells [(.int .i64 v17), (.str v18), (.str v19), (.sl (l57 v20)), (.sl (l69 v21)), (.sl (l69 v22)), (.int .i64 v23)], .cells [(.int .i64 v25), (.int .i64 v26), (.int .i64 v27), (.int .i64 v28), (.int .i64 v29)]] (by kernel_rfl) ?_
                        refine AR_op (by kernel_rfl) (OpJ_boolK hT (q := (decide (((l69 v21).length : Int) > 0))) (by kernel_rfl) h18) ?_
                        refine AR_many hT 10 [0, 1, 6, 7, 8, 9, 87] [(0, (.sl (l69 v1))), (1, (.int .i64 v2)), (6, (.int .i64 v13)), (7, (.int .i64 v14)), (8, (.int .i64 v15)), (9, (.ptr 0 0)), (87, (.bool true))] [.cells [(.int .i64 v17), (.str v18), (.str v19), (.sl (l57 v20)), (.sl (l69 v21)), (.sl (l69 v22)), (.int .i64 v23)], .cells [(.int .i64 v25), (.int .i64 v26), (.int .i64 v27), (.int .i64 v28), (.int .i64 v29)]] (by kernel_rfl) ?_
                        refine AR_fin (by kernel_rfl) ?_
                        refine AE_keep [0, 1, 6, 7, 8, 9, 87] (env' := [(0, (.sl (l69 v1))), (1, (.int .i64 v2)), (6, (.int .i64 v13)), (7, (.int .i64 v14)), (8, (.int .i64 v15)), (9, (.ptr 0 0)), (87, (.bool true))]) (by kernel_rfl) ?_
                        exact AE_done ⟨v13, v14, v15, true, v17, v18, v19, v20, v21, v22, v23, v25, v26, v27, v28, v29, rfl, rfl, k7, Nat.le_refl _, h⟩
                      · replace h := bifF h18 h
                        rcases Bool.eq_false_or_eq_true (v29 == 0) with h19 | h19
                        · replace h := bifT h19 h
                          refine AW_reg ?_
                          refine AR_many hT 4 [0, 1, 6, 7, 8, 9, 10, 45, 47] [(0, (.sl (l69 v1))), (1, (.int .i64 v2)), (6, (.int .i64 v13)), (7, (.int .i64 v14)), (8, (.int .i64 v15)), (9, (.ptr 0 0)), (10, (.ptr 1 0)), (45, (.str v18)), (47, (.int .i64 v25))] [.cells [(.int .i64 v17), (.str v18), (.str v19), (.sl (l57 v20)), (.sl (l69 v21)), (.sl (l69 v22)), (.int .i64 v23)], .cells [(.int .i64 v25), (.int .i64 v26), (.int .i64 v27), (.int .i64 v28), (.int .i64 v29)]] (by kernel_rfl) ?_
                          refine AR_op (by kernel_rfl) (OpJ_callK (g := 81) (args := [(.str v18), (.int .i64 v25)]) (by kernel_rfl) Go.Proofs.Try.func81 (by kernel_rfl) (by kernel_rfl) (Fn_pure (F81_ok k7 v18 v25 v46 h12) (by simp [AV.low, AV.lows, AObj.low]) (by simp [AV.low, AV.lows, AObj.low]))) ?_
                          refine AR_many hT 1 [0, 1, 6, 7, 8, 9, 10, 49] [(0, (.sl (l69 v1))), (1, (.int .i64 v2)), (6, (.int .i64 v13)), (7, (.int .i64 v14)), (8, (.int .i64 v15)), (9, (.ptr 0 0)), (10, (.ptr 1 0)), (49, (.bool (!v46)))] [.cells [(.int .i64 v17), (.str v18), (.str v19), (.sl (l57 v20)), (.sl (l69 v21)), (.sl (l69 v22)), (.int .i64 v23)], .cells [(.int .i64 v25), (.int .i64 v26), (.int .i64 v27), (.int .i64 v28), (.int .i64 v29)]] (by kernel_rfl) ?_
                          refine AR_op (by kernel_rfl) (OpJ_boolK hT (q := (!v46)) (by kernel_rfl) h13) ?_
                          refine AR_many hT 4 [0, 1, 6, 7, 8, 9, 10, 50, 52, 54] [(0, (.sl (l69 v1))), (1, (.int .i64 v2)), (6, (.int .i64 v13)), (7, (.int .i64 v14)), (8, (.int .i64 v15)), (9, (.ptr 0 0)), (10, (.ptr 1 0)), (50, (.bool false)), (52, (.str v19)), (54, (.int .i64 v26))] [.cells [(.int .i64 v17), (.str v18), (.str v19), (.sl (l57 v20)), (.sl (l69 v21)), (.sl (l69 v22)), (.int .i64 v23)], .cells [(.int .i64 v25), (.int .i64 v26), (.int .i64 v27), (.int .i64 v28), (.int .i64 v29)]] (by kernel_rfl) ?_
                          refine AR_op (by kernel_rfl) (OpJ_callK (g := 81) (args := [(.str v19), (.int .i64 v26)]) (by kernel_rfl) Go.Proofs.Try.func81 (by kernel_rfl) (by kernel_rfl) (Fn_pure (F81_ok k7 v19 v26 v47 h14) (by simp [AV.low, AV.lows, AObj.low]) (by simp [AV.low, AV.lows, AObj.low]))) ?_
                          refine AR_many hT 2 [0, 1, 6, 7, 8, 9, 10, 57] [(0, (.sl (l69 v1))), (1, (.int .i64 v2)), (6, (.int .i64 v13)), (7, (.int .i64 v14)), (8, (.int .i64 v15)), (9, (.ptr 0 0)), (10, (.ptr 1 0)), (57, (.bool (!v47)))] [.cells [(.int .i64 v17), (.str v18), (.str v19), (.sl (l57 v20)), (.sl (l69 v21)), (.sl (l69 v22)), (.int .i64 v23)], .cells [(.int .i64 v25), (.int .i64 v26), (.int .i64 v27), (.int .i64 v28), (.int .i64 v29)]] (by kernel_rfl) ?_
                          refine AR_op (by kernel_rfl) (OpJ_boolK hT (q := (!v47)) (by kernel_rfl) h15) ?_
                          refine AR_many hT 7 [0, 1, 6, 7, 8, 9, 10, 65] [(0, (.sl (l69 v1))), (1, (.int .i64 v2)), (6, (.int .i64 v13)), (7, (.int .i64 v14)), (8, (.int .i64 v15)), (9, (.ptr 0 0)), (10, (.ptr 1 0)), (65, (.bool (((l57 v20).length : Int) != v27)))] [.cells [(.int .i64 v17), (.str v18), (.str v19), (.sl (l57 v20)), (.sl (l69 v21)), (.sl (l69 v22)), (.int .i64 v23)], .cells [(.int .i64 v25), (.int .i64 v26), (.int .i64 v27), (.int .i64 v28), (.int .i64 v29)]] (by kernel_rfl) ?_
                          refine AR_op (by kernel_rfl) (OpJ_boolK hT (q := (((l57 v20).length : Int) != v27)) (by kernel_rfl) h16) ?_
                          refine AR_many hT 3 [0, 1, 6, 7, 8, 9, 10, 66, 69] [(0, (.sl (l69 v1))), (1, (.int .i64 v2)), (6, (.int .i64 v13)), (7, (.int .i64 v14)), (8, (.int .i64 v15)), (9, (.ptr 0 0)), (10, (.ptr 1 0)), (66, (.bool false)), (69, (.bool (v28 == 0)))] [.cells [(.int .i64 v17), (.str v18), (.str v19), (.sl (l57 v20)), (.sl (l69 v21)), (.sl (l69 v22)), (.int .i64 v23)], .cells [(.int .i64 v25), (.int .i64 v26), (.int .i64 v27), (.int .i64 v28), (.int .i64 v29)]] (by kernel_rfl) ?_
                          refine AR_op (by kernel_rfl) (OpJ_boolK hT (q := (v28 == 0)) (by kernel_rfl) h17) ?_
                          refine AR_many hT 6 [0, 1, 6, 7, 8, 9, 10, 76] [(0, (.sl (l69 v1))), (1, (.int .i64 v2)), (6, (.int .i64 v13)), (7, (.int .i64 v14)), (8, (.int .i64 v15)), (9, (.ptr 0 0)), (10, (.ptr 1 0)), (76, (.bool (decide (((l69 v21).length : Int) > 0))))] [.cells [(.int .i64 v17), (.str v18), (.str v19), (.sl (l57 v20)), (.sl (l69 v21)), (.sl (l69 v22)), (.int .i64 v23)], .cells [(.int .i64 v25), (.int .i64 v26), (.int .i64 v27), (.int .i64 v28), (.int .i64 v29)]] (by kernel_rfl) ?_
                          refine AR_op (by kernel_rfl) (OpJ_boolK hT (q := (decide (((l69 v21).length : Int) > 0))) (by kernel_rfl) h18) ?_
                          refine AR_many hT 3 [0, 1, 6, 7, 8, 9, 77, 80] [(0, (.sl (l69 v1))), (1, (.int .i64 v2)), (6, (.int .i64 v13)), (7, (.int .i64 v14)), (8, (.int .i64 v15)), (9, (.ptr 0 0)), (77, (.bool false)), (80, (.bool (v29 == 0)))] [.cells [(.int .i64 v17), (.str v18), (.str v19), (.sl (l57 v20)), (.sl (l69 v21)), (.sl (l69 v22)), (.int .i64 v23)], .cells [(.int .i64 v25), (.int .i64 v26), (.int .i64 v27), (.int .i64 v28), (.int .i64 v29)]] (by kernel_rfl) ?_
                          refine AR_op (by kernel_rfl) (OpJ_boolK hT (q := (v29 == 0)) (by kernel_rfl) h19) ?_
                          refine AR_many hT 6 [0, 1, 6, 7, 8, 9, 87] [(0, (.sl (l69 v1))), (1, (.int .i64 v2)), (6, (.int .i64 v13)), (7, (.int .i64 v14)), (8, (.int .i64 v15)), (9, (.ptr 0 0)), (87, (.bool (decide (((l69 v22).length : Int) > 0))))] [.cells [(.int .i64 v17), (.str v18), (.str v19), (.sl (l57 v20)), (.sl (l69 v21)), (.sl (l69 v22)), (.int .i64 v23)], .cells [(.int .i64 v25), (.int .i64 v26), (.int .i64 v27), (.int .i64 v28), (.int .i64 v29)]] (by kernel_rfl) ?_
                          refine AR_fin (by kernel_rfl) ?_
                          refine AE_keep [0, 1, 6, 7, 8, 9, 87] (env' := [(0, (.sl (l69 v1))), (1, (.int .i64 v2)), (6, (.int .i64 v13)), (7, (.int .i64 v14)), (8, (.int .i64 v15)), (9, (.ptr 0 0)), (87, (.bool (decide (((l69 v22).length : Int) > 0))))]) (by kernel_rfl) ?_
                          exact AE_done ⟨v13, v14, v15, (decide (((l69 v22).length : Int) > 0)), v17, v18, v19, v20, v21, v22, v23, v25, v26, v27, v28, v29, rfl, rfl, k7, Nat.le_refl _, h⟩
                        · replace h := bifF h19 h
                          refine AW_reg ?_
                          refine AR_many hT 4 [0, 1, 6, 7, 8, 9, 10, 45, 47] [(0, (.sl (l69 v1))), (1, (.int .i64 v2)), (6, (.int .i64 v13)), (7, (.int .i64 v14)), (8, (.int .i64 v15)), (9, (.ptr 0 0)), (10, (.ptr 1 0)), (45, (.str v18)), (47, (.int .i64 v25))] [.cells [(.int .i64 v17), (.str v18), (.str v19), (.sl (l57 v20)), (.sl (l69 v21)), (.sl (l69 v22)), (.int .i64 v23)], .cells [(.int .i64 v25), (.int .i64 v26), (.int .i64 v27), (.int .i64 v28), (.int .i64 v29)]] (by kernel_rfl) ?_
                          refine AR_op (by kernel_rfl) (OpJ_callK (g := 81) (args := [(.str v18), (.int .i64 v25)]) (by kernel_rfl) Go.Proofs.Try.func81 (by kernel_rfl) (by kernel_rfl) (Fn_pure (F81_ok k7 v18 v25 v46 h12) (by simp [AV.low, AV.lows, AObj.low]) (by simp [AV.low, AV.lows, AObj.low]))) ?_
                          refine AR_many hT 1 [0, 1, 6, 7, 8, 9, 10, 49] [(0, (.sl (l69 v1))), (1, (.int .i64 v2)), (6, (.int .i64 v13)), (7, (.int .i64 v14)), (8, (.int .i64 v15)), (9, (.ptr 0 0)), (10, (.ptr 1 0)), (49, (.bool (!v46)))] [.cells [(.int .i64 v17), (.str v18), (.str v19), (.sl (l57 v20)), (.sl (l69 v21)), (.sl (l69 v22)), (.int .i64 v23)], .cells [(.int .i64 v25), (.int .i64 v26), (.int .i64 v27), (.int .i64 v28), (.int .i64 v29)]] (by kernel_rfl) ?_
                          refine AR_op (by kernel_rfl) (OpJ_boolK hT (q := (!v46)) (by kernel_rfl) h13) ?_
                          refine AR_many hT 4 [0, 1, 6, 7, 8, 9, 10, 50, 52, 54] [(0, (.sl (l69 v1))), (1, (.int .i64 v2)), (6, (.int .i64 v13)), (7, (.int .i64 v14)), (8, (.int .i64 v15)), (9, (.ptr 0 0)), (10, (.ptr 1 0)), (50, (.bool false)), (52, (.str v19)), (54, (.int .i64 v26))] [.cells [(.int .i64 v17), (.str v18), (.str v19), (.sl (l57 v20)), (.sl (l69 v21)), (.sl (l69 v22)), (.int .i64 v23)], .cells [(.int .i64 v25), (.int .i64 v26), (.int .i64 v27), (.int .i64 v28), (.int .i64 v29)]] (by kernel_rfl) ?_
                          refine AR_op (by kernel_rfl) (OpJ_callK (g := 81) (args := [(.str v19), (.int .i64 v26)]) (by kernel_rfl) Go.Proofs.Try.func81 (by kernel_rfl) (by kernel_rfl) (Fn_pure (F81_ok k7 v19 v26 v47 h14) (by simp [AV.low, AV.lows, AObj.low]) (by simp [AV.low, AV.lows, AObj.low]))) ?_
                          refine AR_many hT 2 [0, 1, 6, 7, 8, 9, 10, 57] [(0, (.sl (l69 v1))), (1, (.int .i64 v2)), (6, (.int .i64 v13)), (7, (.int .i64 v14)), (8, (.int .i64 v15)), (9, (.ptr 0 0)), (10, (.ptr 1 0)), (57, (.bool (!v47)))] [.cells [(.int .i64 v17), (.str v18), (.str v19), (.sl (l57 v20)), (.sl (l69 v21)), (.sl (l69 v22)), (.int .i64 v23)], .cells [(.int .i64 v25), (.int .i64 v26), (.int .i64 v27), (.int .i64 v28), (.int .i64 v29)]] (by kernel_rfl) ?_
                          refine AR_op (by kernel_rfl) (OpJ_boolK hT (q := (!v47)) (by kernel_rfl) h15) ?_
                          refine AR_many hT 7 [0, 1, 6, 7, 8, 9, 10, 65] [(0, (.sl (l69 v1))), (1, (.int .i64 v2)), (6, (.int .i64 v13)), (7, (.int .i64 v14)), (8, (.int .i64 v15)), (9, (.ptr 0 0)), (10, (.ptr 1 0)), (65, (.bool (((l57 v20).length : Int) != v27)))] [.cells [(.int .i64 v17), (.str v18), (.str v19), (.sl (l57 v20)), (.sl (l69 v21)), (.sl (l69 v22)), (.int .i64 v23)], .cells [(.int .i64 v25), (.int .i64 v26), (.int .i64 v27), (.int .i64 v28), (.int .i64 v29)]] (by kernel_rfl) ?_
                          refine AR_op (by kernel_rfl) (OpJ_boolK hT (q := (((l57 v20).length : Int) != v27)) (by kernel_rfl) h16) ?_
                          refine AR_many hT 3 [0, 1, 6, 7, 8, 9, 10, 66, 69] [(0, (.sl (l69 v1))), (1, (.int .i64 v2)), (6, (.int .i64 v13)), (7, (.int .i64 v14)), (8, (.int .i64 v15)), (9, (.ptr 0 0)), (10, (.ptr 1 0)), (66, (.bool false)), (69, (.bool (v28 == 0)))] [.cells [(.int .i64 v17), (.str v18), (.str v19), (.sl (l57 v20)), (.sl (l69 v21)), (.sl (l69 v22)), (.int .i64 v23)], .cells [(.int .i64 v25), (.int .i64 v26), (.int .i64 v27), (.int .i64 v28), (.int .i64 v29)]] (by kernel_rfl) ?_
                          refine AR_op (by kernel_rfl) (OpJ_boolK hT (q := (v28 == 0)) (by kernel_rfl) h17) ?_
                          refine AR_many hT 6 [0, 1, 6, 7, 8, 9, 10, 76] [(0, (.sl (l69 v1))), (1, (.int .i64 v2)), (6, (.int .i64 v13)), (7, (.int .i64 v14)), (8, (.int .i64 v15)), (9, (.ptr 0 0)), (10, (.ptr 1 0)), (76, (.bool (decide (((l69 v21).length : Int) > 0))))] [.cells [(.int .i64 v17), (.str v18), (.str v19), (.sl (l57 v20)), (.sl (l69 v21)), (.sl (l69 v22)), (.int .i64 v23)], .cells [(.int .i64 v25), (.int .i64 v26), (.int .i64 v27), (.int .i64 v28), (.int .i64 v29)]] (by kernel_rfl) ?_
                          refine AR_op (by kernel_rfl) (OpJ_boolK hT (q := (decide (((l69 v21).length : Int) > 0))) (by kernel_rfl) h18) ?_
                          refine AR_many hT 3 [0, 1, 6, 7, 8, 9, 77, 80] [(0, (.sl (l69 v1))), (1, (.int .i64 v2)), (6, (.int .i64 v13)), (7, (.int .i64 v14)), (8, (.int .i64 v15)), (9, (.ptr 0 0)), (77, (.bool false)), (80, (.bool (v29 == 0)))] [.cells [(.int .i64 v17), (.str v18), (.str v19), (.sl (l57 v20)), (.sl (l69 v21)), (.sl (l69 v22)), (.int .i64 v23)], .cells [(.int .i64 v25), (.int .i64 v26), (.int .i64 v27), (.int .i64 v28), (.int .i64 v29)]] (by kernel_rfl) ?_
                          refine AR_op (by kernel_rfl) (OpJ_boolK hT (q := (v29 == 0)) (by kernel_rfl) h19) ?_
                          refine AR_many hT 6 [0, 1, 6, 7, 8, 9, 87] [(0, (.sl (l69 v1))), (1, (.int .i64 v2)), (6, (.int .i64 v13)), (7, (.int .i64 v14)), (8, (.int .i64 v15)), (9, (.ptr 0 0)), (87, (.bool false))] [.cells [(.int .i64 v17), (.str v18), (.str v19), (.sl (l57 v20)), (.sl (l69 v21)), (.sl (l69 v22)), (.int .i64 v23)], .cells [(.int .i64 v25), (.int .i64 v26), (.int .i64 v27), (.int .i64 v28), (.int .i64 v29)]] (by kernel_rfl) ?_
                          refine AR_fin (by kernel_rfl) ?_
                          refine AE_keep [0, 1, 6, 7, 8, 9, 87] (env' := [(0, (.sl (l69 v1))), (1, (.int .i64 v2)), (6, (.int .i64 v13)), (7, (.int .i64 v14)), (8, (.int .i64 v15)), (9, (.ptr 0 0)), (87, (.bool false))]) (by kernel_rfl) ?_
                          exact AE_done ⟨v13, v14, v15, false, v17, v18, v19, v20, v21, v22, v23, v25, v26, v27, v28, v29, rfl, rfl, k7, Nat.le_refl _, h⟩
                    · replace h := bifF h17 h
                      rcases Bool.eq_false_or_eq_true (v29 == 0) with h20 | h20
                      · replace h := bifT h20 h
                        refine AW_reg ?_
                        refine AR_many hT 4 [0, 1, 6, 7, 8, 9, 10, 45, 47] [(0, (.sl (l69 v1))), (1, (.int .i64 v2)), (6, (.int .i64 v13)), (7, (.int .i64 v14)), (8, (.int .i64 v15)), (9, (.ptr 0 0)), (10, (.ptr 1 0)), (45, (.str v18)), (47, (.int .i64 v25))] [.cells [(.int .i64 v17), (.str v18), (.str v19), (.sl (l57 v20)), (.sl (l69 v21)), (.sl (l69 v22)), (.int .i64 v23)], .cells [(.int .i64 v25), (.int .i64 v26), (.int .i64 v27), (.int .i64 v28), (.int .i64 v29)]] (by kernel_rfl) ?_
                        refine AR_op (by kernel_rfl) (OpJ_callK (g := 81) (args := [(.str v18), (.int .i64 v25)]) (by kernel_rfl) Go.Proofs.Try.func81 (by kernel_rfl) (by kernel_rfl) (Fn_pure (F81_ok k7 v18 v25 v46 h12) (by simp [AV.low, AV.lows, AObj.low]) (by simp [AV.low, AV.lows, AObj.low]))) ?_
                        refine AR_many hT 1 [0, 1, 6, 7, 8, 9, 10, 49] [(0, (.sl (l69 v1))), (1, (.int .i64 v2)), (6, (.int .i64 v13)), (7, (.int .i64 v14)), (8, (.int .i64 v15)), (9, (.ptr 0 0)), (10, (.ptr 1 0)), (49, (.bool (!v46)))] [.cells [(.int .i64 v17), (.str v18), (.str v19), (.sl (l57 v20)), (.sl (l69 v21)), (.sl (l69 v22)), (.int .i64 v23)], .cells [(.int .i64 v25), (.int .i64 v26), (.int .i64 v27), (.int .i64 v28), (.int .i64 v29)]] (by kernel_rfl) ?_
                        refine AR_op (by kernel_rfl) (OpJ_boolK hT (q := (!v46)) (by kernel_rfl) h13) ?_
                        refine AR_many hT 4 [0, 1, 6, 7, 8, 9, 10, 50, 52, 54] [(0, (.sl (l69 v1))), (1, (.int .i64 v2)), (6, (.int .i64 v13)), (7, (.int .i64 v14)), (8, (.int .i64 v15)), (9, (.ptr 0 0)), (10, (.ptr 1 0)), (50, (.bool false)), (52, (.str v19)), (54, (.int .i64 v26))] [.cells [(.int .i64 v17), (.str v18), (.str v19), (.sl (l57 v20)), (.sl (l69 v21)), (.sl (l69 v22)), (.int .i64 v23)], .cells [(.int .i64 v25), (.int .i64 v26), (.int .i64 v27), (.int .i64 v28), (.int .i64 v29)]] (by kernel_rfl) ?_
                        refine AR_op (by kernel_rfl) (OpJ_callK (g := 81) (args := [(.str v19), (.int .i64 v26)]) (by kernel_rfl) Go.Proofs.Try.func81 (by kernel_rfl) (by kernel_rfl) (Fn_pure (F81_ok k7 v19 v26 v47 h14) (by simp [AV.low, AV.lows, AObj.low]) (by simp [AV.low, AV.lows, AObj.low]))) ?_
                        refine AR_many hT 2 [0, 1, 6, 7, 8, 9, 10, 57] [(0, (.sl (l69 v1))), (1, (.int .i64 v2)), (6, (.int .i64 v13)), (7, (.int .i64 v14)), (8, (.int .i64 v15)), (9, (.ptr 0 0)), (10, (.ptr 1 0)), (57, (.bool (!v47)))] [.cells [(.int .i64 v17), (.str v18), (.str v19), (.sl (l57 v20)), (.sl (l69 v21)), (.sl (l69 v22)), (.int .i64 v23)], .cells [(.int .i64 v25), (.int .i64 v26), (.int .i64 v27), (.int .i64 v28), (.int .i64 v29)]] (by kernel_rfl) ?_
                        refine AR_op (by kernel_rfl) (OpJ_boolK hT (q := (!v47)) (by kernel_rfl) h15) ?_
                        refine AR_many hT 7 [0, 1, 6, 7, 8, 9, 10, 65] [(0, (.sl (l69 v1))), (1, (.int .i64 v2)), (6, (.int .i64 v13)), (7, (.int .i64 v14)), (8, (.int .i64 v15)), (9, (.ptr 0 0)), (10, (.ptr 1 0)), (65, (.bool (((l57 v20).length : Int) != v27)))] [.cells [(.int .i64 v17), (.str v18), (.str v19), (.sl (l57 v20)), (.sl (l69 v21)), (.sl (l69 v22)), (.int .i64 v23)], .cells [(.int .i64 v25), (.int .i64 v26), (.int .i64 v27), (.int .i64 v28), (.int .i64 v29)]] (by kernel_rfl) ?_
                        refine AR_op (by kernel_rfl) (OpJ_boolK hT (q := (((l57 v20).length : Int) != v27)) (by kernel_rfl) h16) ?_
                        refine AR_many hT 3 [0, 1, 6, 7, 8, 9, 10, 66, 69] [(0, (.sl (l69 v1))), (1, (.int .i64 v2)), (6, (.int .i64 v13)), (7, (.int .i64 v14)), (8, (.int .i64 v15)), (9, (.ptr 0 0)), (10, (.ptr 1 0)), (66, (.bool false)), (69, (.bool (v28 == 0)))] [.cells [(.int .i64 v17), (.str v18), (.str v19), (.sl (l57 v20)), (.sl (l69 v21)), (.sl (l69 v22)), (.int .i64 v23)], .cells [(.int .i64 v25), (.int .i64 v26), (.int .i64 v27), (.int .i64 v28), (.int .i64 v29)]] (by kernel_rfl) ?_
                        refine AR_op (by kernel_rfl) (OpJ_boolK hT (q := (v28 == 0)) (by kernel_rfl) h17) ?_
                        refine AR_many hT 10 [0, 1, 6, 7, 8, 9, 77, 80] [(0, (.sl (l69 v1))), (1, (.int .i64 v2)), (6, (.int .i64 v13)), (7, (.int .i64 v14)), (8, (.int .i64 v15)), (9, (.ptr 0 0)), (77, (.bool false)), (80, (.bool (v29 == 0)))] [.cells [(.int .i64 v17), (.str v18), (.str v19), (.sl (l57 v20)), (.sl (l69 v21)), (.sl (l69 v22)), (.int .i64 v23)], .cells [(.int .i64 v25), (.int .i64 v26), (.int .i64 v27), (.int .i64 v28), (.int .i64 v29)]] (by kernel_rfl) ?_
                        refine AR_op (by kernel_rfl) (OpJ_boolK hT (q := (v29 == 0)) (by kernel_rfl) h20) ?_
                        refine AR_many hT 6 [0, 1, 6, 7, 8, 9, 87] [(0, (.sl (l69 v1))), (1, (.int .i64 v2)), (6, (.int .i64 v13)), (7, (.int .i64 v14)), (8, (.int .i64 v15)), (9, (.ptr 0 0)), (87, (.bool (decide (((l69 v22).length : Int) > 0))))] [.cells [(.int .i64 v17), (.str v18), (.str v19), (.sl (l57 v20)), (.sl (l69 v21)), (.sl (l69 v22)), (.int .i64 v23)], .cells [(.int .i64 v25), (.int .i64 v26), (.int .i64 v27), (.int .i64 v28), (.int .i64 v29)]] (by kernel_rfl) ?_
                        refine AR_fin (by kernel_rfl) ?_
                        refine AE_keep [0, 1, 6, 7, 8, 9, 87] (env' := [(0, (.sl (l69 v1))), (1, (.int .i64 v2)), (6, (.int .i64 v13)), (7, (.int .i64 v14)), (8, (.int .i64 v15)), (9, (.ptr 0 0)), (87, (.bool (decide (((l69 v22).length : Int) > 0))))]) (by kernel_rfl) ?_
                        exact AE_done ⟨v13, v14, v15, (decide (((l69 v22).length : Int) > 0)), v17, v18, v19, v20, v21, v22, v23, v25, v26, v27, v28, v29, rfl, rfl, k7, Nat.le_refl _, h⟩
                      · replace h := bifF h20 h
                        refine AW_reg ?_
                        refine AR_many hT 4 [0, 1, 6, 7, 8, 9, 10, 45, 47] [(0, (.sl (l69 v1))), (1, (.int .i64 v2)), (6, (.int .i64 v13)), (7, (.int .i64 v14)), (8, (.int .i64 v15)), (9, (.ptr 0 0)), (10, (.ptr 1 0)), (45, (.str v18)), (47, (.int .i64 v25))] [.cells [(.int .i64 v17), (.str v18), (.str v19), (.sl (l57 v20)), (.sl (l69 v21)), (.sl (l69 v22)), (.int .i64 v23)], .cells [(.int .i64 v25), (.int .i64 v26), (.int .i64 v27), (.int .i64 v28), (.int .i64 v29)]] (by kernel_rfl) ?_
                        refine AR_op (by kernel_rfl) (OpJ_callK (g := 81) (args := [(.str v18), (.int .i64 v25)]) (by kernel_rfl) Go.Proofs.Try.func81 (by kernel_rfl) (by kernel_rfl) (Fn_pure (F81_ok k7 v18 v25 v46 h12) (by simp [AV.low, AV.lows, AObj.low]) (by simp [AV.low, AV.lows, AObj.low]))) ?_
                        refine AR_many hT 1 [0, 1, 6, 7, 8, 9, 10, 49] [(0, (.sl (l69 v1))), (1, (.int .i64 v2)), (6, (.int .i64 v13)), (7, (.int .i64 v14)), (8, (.int .i64 v15)), (9, (.ptr 0 0)), (10, (.ptr 1 0)), (49, (.bool (!v46)))] [.cells [(.int .i64 v17), (.str v18), (.str v19), (.sl (l57 v20)), (.sl (l69 v21)), (.sl (l69 v22)), (.int .i64 v23)], .cells [(.int .i64 v25), (.int .i64 v26), (.int .i64 v27), (.int .i64 v28), (.int .i64 v29)]] (by kernel_rfl) ?_
                        refine AR_op (by kernel_rfl) (OpJ_boolK hT (q := (!v46)) (by kernel_rfl) h13) ?_
                        refine AR_many hT 4 [0, 1, 6, 7, 8, 9, 10, 50, 52, 54] [(0, (.sl (l69 v1))), (1, (.int .i64 v2)), (6, (.int .i64 v13)), (7, (.int .i64 v14)), (8, (.int .i64 v15)), (9, (.ptr 0 0)), (10, (.ptr 1 0)), (50, (.bool false)), (52, (.str v19)), (54, (.int .i64 v26))] [.cells [(.int .i64 v17), (.str v18), (.str v19), (.sl (l57 v20)), (.sl (l69 v21)), (.sl (l69 v22)), (.int .i64 v23)], .cells [(.int .i64 v25), (.int .i64 v26), (.int .i64 v27), (.int .i64 v28), (.int .i64 v29)]] (by kernel_rfl) ?_
                        refine AR_op (by kernel_rfl) (OpJ_callK (g := 81) (args := [(.str v19), (.int .i64 v26)]) (by kernel_rfl) Go.Proofs.Try.func81 (by kernel_rfl) (by kernel_rfl) (Fn_pure (F81_ok k7 v19 v26 v47 h14) (by simp [AV.low, AV.lows, AObj.low]) (by simp [AV.low, AV.lows, AObj.low]))) ?_
                        refine AR_many hT 2 [0, 1, 6, 7, 8, 9, 10, 57] [(0, (.sl (l69 v1))), (1, (.int .i64 v2)), (6, (.int .i64 v13)), (7, (.int .i64 v14)), (8, (.int .i64 v15)), (9, (.ptr 0 0)), (10, (.ptr 1 0)), (57, (.bool (!v47)))] [.cells [(.int .i64 v17), (.str v18), (.str v19), (.sl (l57 v20)), (.sl (l69 v21)), (.sl (l69 v22)), (.int .i64 v23)], .cells [(.int .i64 v25), (.int .i64 v26), (.int .i64 v27), (.int .i64 v28), (.int .i64 v29)]] (by kernel_rfl) ?_
                        refine AR_op (by kernel_rfl) (OpJ_boolK hT (q := (!v47)) (by kernel_rfl) h15) ?_
                        refine AR_many hT 7 [0, 1, 6, 7, 8, 9, 10, 65] [(0, (.sl (l69 v1))), (1, (.int .i64 v2)), (6, (.int .i64 v13)), (7, (.int .i64 v14)), (8, (.int .i64 v15)), (9, (.ptr 0 0)), (10, (.ptr 1 0)), (65, (.bool (((l57 v20).length : Int) != v27)))] [.cells [(.int .i64 v17), (.str v18), (.str v19), (.sl (l57 v20)), (.sl (l69 v21)), (.sl (l69 v22)), (.int .i64 v23)], .cells [(.int .i64 v25), (.int .i64 v26), (.int .i64 v27), (.int .i64 v28), (.int .i64 v29)]] (by kernel_rfl) ?_
                        refine AR_op (by kernel_rfl) (OpJ_boolK hT (q := (((l57 v20).length : Int) != v27)) (by kernel_rfl) h16) ?_
                        refine AR_many hT 3 [0, 1, 6, 7, 8, 9, 10, 66, 69] [(0, (.sl (l69 v1))), (1, (.int .i64 v2)), (6, (.int .i64 v13)), (7, (.int .i64 v14)), (8, (.int .i64 v15)), (9, (.ptr 0 0)), (10, (.ptr 1 0)), (66, (.bool false)), (69, (.bool (v28 == 0)))] [.cells [(.int .i64 v17), (.str v18), (.str v19), (.sl (l57 v20)), (.sl (l69 v21)), (.sl (l69 v22)), (.int .i64 v23)], .cells [(.int .i64 v25), (.int .i64 v26), (.int .i64 v27), (.int .i64 v28), (.int .i64 v29)]] (by kernel_rfl) ?_
                        refine AR_op (by kernel_rfl) (OpJ_boolK hT (q := (v28 == 0)) (by kernel_rfl) h17) ?_
                        refine AR_many hT 10 [0, 1, 6, 7, 8, 9, 77, 80] [(0, (.sl (l69 v1))), (1, (.int .i64 v2)), (6, (.int .i64 v13)), (7, (.int .i64 v14)), (8, (.int .i64 v15)), (9, (.ptr 0 0)), (77, (.bool false)), (80, (.bool (v29 == 0)))] [.cells [(.int .i64 v17), (.str v18), (.str v19), (.sl (l57 v20)), (.sl (l69 v21)), (.sl (l69 v22)), (.int .i64 v23)], .cells [(.int .i64 v25), (.int .i64 v26), (.int .i64 v27), (.int .i64 v28), (.int .i64 v29)]] (by kernel_rfl) ?_
                        refine AR_op (by kernel_rfl) (OpJ_boolK hT (q := (v29 == 0)) (by kernel_rfl) h20) ?_
                        refine AR_many hT 6 [0, 1, 6, 7, 8, 9, 87] [(0, (.sl (l69 v1))), (1, (.int .i64 v2)), (6, (.int .i64 v13)), (7, (.int .i64 v14)), (8, (.int .i64 v15)), (9, (.ptr 0 0)), (87, (.bool false))] [.cells [(.int .i64 v17), (.str v18), (.str v19), (.sl (l57 v20)), (.sl (l69 v21)), (.sl (l69 v22)), (.int .i64 v23)], .cells [(.int .i64 v25), (.int .i64 v26), (.int .i64 v27), (.int .i64 v28), (.int .i64 v29)]] (by kernel_rfl) ?_
                        refine AR_fin (by kernel_rfl) ?_
                        refine AE_keep [0, 1, 6, 7, 8, 9, 87] (env' := [(0, (.sl (l69 v1))), (1, (.int .i64 v2)), (6, (.int .i64 v13)), (7, (.int .i64 v14)), (8, (.int .i64 v15)), (9, (.ptr 0 0)), (87, (.bool false))]) (by kernel_rfl) ?_
                        exact AE_done ⟨v13, v14, v15, false, v17, v18, v19, v20, v21, v22, v23, v25, v26, v27, v28, v29, rfl, rfl, k7, Nat.le_refl _, h⟩
            · rintro _ _ ⟨v30, v31, v32, v33, v34, v35, v36, v37, v38, v39, v40, v41, v42, v43, v44, v45, rfl, rfl, n, hn, h⟩
              obtain _ | k21 := n
              · rw [F39_j2] at h; cases h
              have h22 : k21 < (k + 1) := by omega
              rw [F39_j2] at h
              rcases Bool.eq_false_or_eq_true v33 with h23 | h23
              · replace h := bifT h23 h
                refine AW_ifT (q := v33) (by kernel_rfl) h23 ?_
                refine AW_seq ?_
                refine AW_reg ?_
                refine AR_many hT 2 [4, 5] [(4, (.int .i64 (-1))), (5, (.int .i64 0))] [.cells [(.int .i64 v34), (.str v35), (.str v36), (.sl (l57 v37)), (.sl (l69 v38)), (.sl (l69 v39)), (.int .i64 v40)], .cells [(.int .i64 v41), (.int .i64 v42), (.int .i64 v43), (.int .i64 v44), (.int .i64 v45)]] (by kernel_rfl) ?_
                refine AR_fin (by kernel_rfl) ?_
                refine AE_seqN ?_
                refine AE_ret ?_
                refine AE_seqR ?_
                refine AE_blkR ?_
                refine AE_seqR ?_
                refine AE_seqR ?_
                refine AE_blkR ?_
                refine AE_seqR ?_
                refine AE_keep [4, 5] (env' := [(4, (.int .i64 (-1))), (5, (.int .i64 0))]) (by kernel_rfl) ?_
                simp only [Option.some.injEq, Prod.mk.injEq] at h
                obtain ⟨rfl, rfl⟩ := h
                exact AE_done ⟨trivial, by kernel_rfl, by kernel_rfl, by simp [AV.low, AV.lows, AObj.low], by simp [AV.low, AV.lows, AObj.low]⟩
              · replace h := bifF h23 h
                refine AW_ifF (q := v33) (by kernel_rfl) h23 ?_
                refine AE_skip ?_
                refine AE_seqN ?_
                refine AW_seq ?_
                obtain ⟨⟨v48, v49⟩, h24, h⟩ := Option.bind_eq_some_iff.mp h
                try dsimp only at h
                refine AW_reg ?_
                refine AR_many hT 4 [0, 1, 6, 7, 8, 9, 90, 92] [(0, (.sl (l69 v1))), (1, (.int .i64 v2)), (6, (.int .i64 v30)), (7, (.int .i64 v31)), (8, (.int .i64 v32)), (9, (.ptr 0 0)), (90, (.sl (l69 v38))), (92, (.int .i64 (IntKind.wrap .i64 (v2 - 1))))] [.cells [(.int .i64 v34), (.str v35), (.str v36), (.sl (l57 v37)), (.sl (l69 v38)), (.sl (l69 v39)), (.int .i64 v40)], .cells [(.int .i64 v41), (.int .i64 v42), (.int .i64 v43), (.int .i64 v44), (.int .i64 v45)]] (by kernel_rfl) ?_
                refine AR_op (by kernel_rfl) (OpJ_callK (g := 39) (args := [(.sl (l69 v38)), (.int .i64 (IntKind.wrap .i64 (v2 - 1)))]) (by kernel_rfl) Go.Proofs.Try.func39 (by kernel_rfl) (by kernel_rfl) (Fn_pure (ih_F39 k21 h22 v38 (IntKind.wrap .i64 (v2 - 1)) v48 v49 h24) (by simp [AV.low, AV.lows, AObj.low]) (by simp [AV.low, AV.lows, AObj.low]))) ?_
                refine AR_many hT 5 [0, 1, 6, 7, 8, 9, 11, 12] [(0, (.sl (l69 v1))), (1, (.int .i64 v2)), (6, (.int .i64 v30)), (7, (.int .i64 v31)), (8, (.int .i64 v32)), (9, (.ptr 0 0)), (11, (.int .i64 v48)), (12, (.int .i64 v49))] [.cells [(.int .i64 v34), (.str v35), (.str v36), (.sl (l57 v37)), (.sl (l69 v38)), (.sl (l69 v39)), (.int .i64 v40)], .cells [(.int .i64 v41), (.int .i64 v42), (.int .i64 v43), (.int .i64 v44), (.int .i64 v45)]] (by kernel_rfl) ?_
                refine AR_fin (by kernel_rfl) ?_
                refine AE_seqN ?_
                refine AW_seq ?_
                obtain ⟨⟨v50, v51⟩, h25, h⟩ := Option.bind_eq_some_iff.mp h
                try dsimp only at h
                refine AW_reg ?_
                refine AR_many hT 4 [0, 1, 6, 7, 8, 9, 11, 12, 98, 100] [(0, (.sl (l69 v1))), (1, (.int .i64 v2)), (6, (.int .i64 v30)), (7, (.int .i64 v31)), (8, (.int .i64 v32)), (9, (.ptr 0 0)), (11, (.int .i64 v48)), (12, (.int .i64 v49)), (98, (.sl (l69 v39))), (100, (.int .i64 (IntKind.wrap .i64 (v2 - 1))))] [.cells [(.int .i64 v34), (.str v35), (.str v36), (.sl (l57 v37)), (.sl (l69 v38)), (.sl (l69 v39)), (.int .i64 v40)], .cells [(.int .i64 v41), (.int .i64 v42), (.int .i64 v43), (.int .i64 v44), (.int .i64 v45)]] (by kernel_rfl) ?_
                refine AR_op (by kernel_rfl) (OpJ_callK (g := 39) (args := [(.sl (l69 v39)), (.int .i64 (IntKind.wrap .i64 (v2 - 1)))]) (by kernel_rfl) Go.Proofs.Try.func39 (by kernel_rfl) (by kernel_rfl) (Fn_pure (ih_F39 k21 h22 v39 (IntKind.wrap .i64 (v2 - 1)) v50 v51 h25) (by simp [AV.low, AV.lows, AObj.low]) (by simp [AV.low, AV.lows, AObj.low]))) ?_
                refine AR_many hT 5 [0, 1, 6, 7, 8, 9, 11, 12, 13, 14] [(0, (.sl (l69 v1))), (1, (.int .i64 v2)), (6, (.int .i64 v30)), (7, (.int .i64 v31)), (8, (.int .i64 v32)), (9, (.ptr 0 0)), (11, (.int .i64 v48)), (12, (.int .i64 v49)), (13, (.int .i64 v50)), (14, (.int .i64 v51))] [.cells [(.int .i64 v34), (.str v35), (.str v36), (.sl (l57 v37)), (.sl (l69 v38)), (.sl (l69 v39)), (.int .i64 v40)], .cells [(.int .i64 v41), (.int .i64 v42), (.int .i64 v43), (.int .i64 v44), (.int .i64 v45)]] (by kernel_rfl) ?_
                refine AR_fin (by kernel_rfl) ?_
                refine AE_seqN ?_
                refine AW_seq ?_
                refine AW_join (fun env L => ∃ (v52 : Int) (v53 : Int) (v54 : Int) (v55 : Int) (v56 : Int) (v57 : Int) (v58 : Int) (v59 : Bool) (v60 : Int) (v61 : ByteArray) (v62 : ByteArray) (v63 : (List T57)) (v64 : (List T69)) (v65 : (List T69)) (v66 : Int) (v67 : Int) (v68 : Int) (v69 : Int) (v70 : Int) (v71 : Int), env = [(0, (.sl (l69 v1))), (1, (.int .i64 v2)), (6, (.int .i64 v52)), (7, (.int .i64 v53)), (8, (.int .i64 v54)), (9, (.ptr 0 0)), (11, (.int .i64 v55)), (12, (.int .i64 v56)), (13, (.int .i64 v57)), (14, (.int .i64 v58)), (109, (.bool v59))] ∧ L = [.cells [(.int .i64 v60), (.str v61), (.str v62), (.sl (l57 v63)), (.sl (l69 v64)), (.sl (l69 v65)), (.int .i64 v66)], .cells [(.int .i64 v67), (.int .i64 v68), (.int .i64 v69), (.int .i64 v70), (.int .i64 v71)]] ∧ ∃ n, n ≤ k21 ∧ F39_j3 n v1 v2 v52 v53 v54 v55 v56 v57 v58 v59 v63 = some (r1, r2)) ?_ ?_
                · rcases Bool.eq_false_or_eq_true (decide (v48 < 0)) with h26 | h26
                  · replace h := bifT h26 h
                    refine AW_reg ?_
                    refine AR_many hT 2 [0, 1, 6, 7, 8, 9, 11, 12, 13, 14, 105] [(0, (.sl (l69 v1))), (1, (.int .i64 v2)), (6, (.int .i64 v30)), (7, (.int .i64 v31)), (8, (.int .i64 v32)), (9, (.ptr 0 0)), (11, (.int .i64 v48)), (12, (.int .i64 v49)), (13, (.int .i64 v50)), (14, (.int .i64 v51)), (105, (.bool (decide (v48 < 0))))] [.cells [(.int .i64 v34), (.str v35), (.str v36), (.sl (l57 v37)), (.sl (l69 v38)), (.sl (l69 v39)), (.int .i64 v40)], .cells [(.int .i64 v41), (.int .i64 v42), (.int .i64 v43), (.int .i64 v44), (.int .i64 v45)]] (by kernel_rfl) ?_
                    refine AR_op (by kernel_rfl) (OpJ_boolK hT (q := (decide (v48 < 0))) (by kernel_rfl) h26) ?_
                    refine AR_many hT 3 [0, 1, 6, 7, 8, 9, 11, 12, 13, 14, 109] [(0, (.sl (l69 v1))), (1, (.int .i64 v2)), (6, (.int .i64 v30)), (7, (.int .i64 v31)), (8, (.int .i64 v32)), (9, (.ptr 0 0)), (11, (.int .i64 v48)), (12, (.int .i64 v49)), (13, (.int .i64 v50)), (14, (.int .i64 v51)), (109, (.bool true))] [.cells [(.int .i64 v34), (.str v35), (.str v36), (.sl (l57 v37)), (.sl (l69 v38)), (.sl (l69 v39)), (.int .i64 v40)], .cells [(.int .i64 v41), (.int .i64 v42), (.int .i64 v43), (.int .i64 v44), (.int .i64 v45)]] (by kernel_rfl) ?_
                    refine AR_fin (by kernel_rfl) ?_
                    refine AE_keep [0, 1, 6, 7, 8, 9, 11, 12, 13, 14, 109] (env' := [(0, (.sl (l69 v1))), (1, (.int .i64 v2)), (6, (.int .i64 v30)), (7, (.int .i64 v31)), (8, (.int .i64 v32)), (9, (.ptr 0 0)), (11, (.int .i64 v48)), (12, (.int .i64 v49)), (13, (.int .i64 v50)), (14, (.int .i64 v51)), (109, (.bool true))]) (by kernel_rfl) ?_
                    exact AE_done ⟨v30, v31, v32, v48, v49, v50, v51, true, v34, v35, v36, v37, v38, v39, v40, v41, v42, v43, v44, v45, rfl, rfl, k21, Nat.le_refl _, h⟩
                  · replace h := bifF h26 h
                    refine AW_reg ?_
                    refine AR_many hT 2 [0, 1, 6, 7, 8, 9, 11, 12, 13, 14, 105] [(0, (.sl (l69 v1))), (1, (.int .i64 v2)), (6, (.int .i64 v30)), (7, (.int .i64 v31)), (8, (.int .i64 v32)), (9, (.ptr 0 0)), (11, (.int .i64 v48)), (12, (.int .i64 v49)), (13, (.int .i64 v50)), (14, (.int .i64 v51)), (105, (.bool (decide (v48 < 0))))] [.cells [(.int .i64 v34), (.str v35), (.str v36), (.sl (l57 v37)), (.sl (l69 v38)), (.sl (l69 v39)), (.int .i64 v40)], .cells [(.int .i64 v41), (.int .i64 v42), (.int .i64 v43), (.int .i64 v44), (.int .i64 v45)]] (by kernel_rfl) ?_
                    refine AR_op (by kernel_rfl) (OpJ_boolK hT (q := (decide (v48 < 0))) (by kernel_rfl) h26) ?_
                    refine AR_many hT 3 [0, 1, 6, 7, 8, 9, 11, 12, 13, 14, 109] [(0, (.sl (l69 v1))), (1, (.int .i64 v2)), (6, (.int .i64 v30)), (7, (.int .i64 v31)), (8, (.int .i64 v32)), (9, (.ptr 0 0)), (11, (.int .i64 v48)), (12, (.int .i64 v49)), (13, (.int .i64 v50)), (14, (.int .i64 v51)), (109, (.bool (decide (v50 < 0))))] [.cells [(.int .i64 v34), (.str v35), (.str v36), (.sl (l57 v37)), (.sl (l69 v38)), (.sl (l69 v39)), (.int .i64 v40)], .cells [(.int .i64 v41), (.int .i64 v42), (.int .i64 v43), (.int .i64 v44), (.int .i64 v45)]] (by kernel_rfl) ?_
                    refine AR_fin (by kernel_rfl) ?_
                    refine AE_keep [0, 1, 6, 7, 8, 9, 11, 12, 13, 14, 109] (env' := [(0, (.sl (l69 v1))), (1, (.int .i64 v2)), (6, (.int .i64 v30)), (7, (.int .i64 v31)), (8, (.int .i64 v32)), (9, (.ptr 0 0)), (11, (.int .i64 v48)), (12, (.int .i64 v49)), (13, (.int .i64 v50)), (14, (.int .i64 v51)), (109, (.bool (decide (v50 < 0))))]) (by kernel_rfl) ?_
                    exact AE_done ⟨v30, v31, v32, v48, v49, v50, v51, (decide (v50 < 0)), v34, v35, v36, v37, v38, v39, v40, v41, v42, v43, v44, v45, rfl, rfl, k21, Nat.le_refl _, h⟩
                · rintro _ _ ⟨v52, v53, v54, v55, v56, v57, v58, v59, v60, v61, v62, v63, v64, v65, v66, v67, v68, v69, v70, v71, rfl, rfl, n, hn, h⟩
                  obtain _ | k27 := n
                  · rw [F39_j3] at h; cases h
                  have h28 : k27 < (k + 1) := by omega
                  rw [F39_j3] at h
                  rcases Bool.eq_false_or_eq_true v59 with h29 | h29
                  · replace h := bifT h29 h
                    refine AW_ifT (q := v59) (by kernel_rfl) h29 ?_
                    refine AW_seq ?_
                    refine AW_reg ?_
                    refine AR_many hT 2 [4, 5] [(4, (.int .i64 (-1))), (5, (.int .i64 0))] [.cells [(.int .i64 v60), (.str v61), (.str v62), (.sl (l57 v63)), (.sl (l69 v64)), (.sl (l69 v65)), (.int .i64 v66)], .cells [(.int .i64 v67), (.int .i64 v68), (.int .i64 v69), (.int .i64 v70), (.int .i64 v71)]] (by kernel_rfl) ?_
                    refine AR_fin (by kernel_rfl) ?_
                    refine AE_seqN ?_
                    refine AE_ret ?_
                    refine AE_seqR ?_
                    refine AE_blkR ?_
                    refine AE_seqR ?_
                    refine AE_seqR ?_
                    refine AE_blkR ?_
                    refine AE_seqR ?_
                    refine AE_keep [4, 5] (env' := [(4, (.int .i64 (-1))), (5, (.int .i64 0))]) (by kernel_rfl) ?_
                    simp only [Option.some.injEq, Prod.mk.injEq] at h
                    obtain ⟨rfl, rfl⟩ := h
                    exact AE_done ⟨trivial, by kernel_rfl, by kernel_rfl, by simp [AV.low, AV.lows, AObj.low], by simp [AV.low, AV.lows, AObj.low]⟩
                  · replace h := bifF h29 h
                    refine AW_ifF (q := v59) (by kernel_rfl) h29 ?_
                    refine AE_skip ?_
                    refine AE_seqN ?_
                    refine AW_seq ?_
                    refine AW_seq ?_
                    refine AW_reg ?_
                    refine AR_many hT 1 [0, 1, 6, 7, 8, 9, 11, 12, 13, 14, 15] [(0, (.sl (l69 v1))), (1, (.int .i64 v2)), (6, (.int .i64 v52)), (7, (.int .i64 v53)), (8, (.int .i64 v54)), (9, (.ptr 0 0)), (11, (.int .i64 v55)), (12, (.int .i64 v56)), (13, (.int .i64 v57)), (14, (.int .i64 v58)), (15, (.int .i64 0))] [.cells [(.int .i64 v60), (.str v61), (.str v62), (.sl (l57 v63)), (.sl (l69 v64)), (.sl (l69 v65)), (.int .i64 v66)], .cells [(.int .i64 v67), (.int .i64 v68), (.int .i64 v69), (.int .i64 v70), (.int .i64 v71)]] (by kernel_rfl) ?_
                    refine AR_fin (by kernel_rfl) ?_
                    refine AE_seqN ?_
                    refine AW_block ?_
                    refine AW_keep [0, 1, 6, 7, 8, 9, 11, 12, 13, 14, 15] (env' := [(0, (.sl (l69 v1))), (1, (.int .i64 v2)), (6, (.int .i64 v52)), (7, (.int .i64 v53)), (8, (.int .i64 v54)), (9, (.ptr 0 0)), (11, (.int .i64 v55)), (12, (.int .i64 v56)), (13, (.int .i64 v57)), (14, (.int .i64 v58)), (15, (.int .i64 0))]) (by kernel_rfl) ?_
                    refine AW_loop (fun n env L => n ≤ k27 ∧ ∃ (v72 : Int) (v73 : Int), env = [(0, (.sl (l69 v1))), (1, (.int .i64 v2)), (6, (.int .i64 v52)), (7, (.int .i64 v72)), (8, (.int .i64 v54)), (9, (.ptr 0 0)), (11, (.int .i64 v55)), (12, (.int .i64 v56)), (13, (.int .i64 v57)), (14, (.int .i64 v58)), (15, (.int .i64 v73))] ∧ L = [.cells [(.int .i64 v60), (.str v61), (.str v62), (.sl (l57 v63)), (.sl (l69 v64)), (.sl (l69 v65)), (.int .i64 v66)], .cells [(.int .i64 v67), (.int .i64 v68), (.int .i64 v69), (.int .i64 v70), (.int .i64 v71)]] ∧ F39_l4 n v1 v2 v52 v54 v55 v56 v57 v58 v63 v72 v73 = some (r1, r2)) k27 ⟨Nat.le_refl _, v53, 0, rfl, rfl, h⟩ ?_
                    rintro n _ _ ⟨hn, v72, v73, rfl, rfl, h⟩
                    cases n with
                    | zero => rw [F39_l4] at h; cases h
                    | succ k30 =>
                      have h31 : k30 < (k + 1) := by omega
                      rw [F39_l4] at h
                      refine AW_seq ?_
                      refine AW_seq ?_
                      refine AW_reg ?_
                      refine AR_many hT 5 [0, 1, 6, 7, 8, 9, 11, 12, 13, 14, 15, 114] [(0, (.sl (l69 v1))), (1, (.int .i64 v2)), (6, (.int .i64 v52)), (7, (.int .i64 v72)), (8, (.int .i64 v54)), (9, (.ptr 0 0)), (11, (.int .i64 v55)), (12, (.int .i64 v56)), (13, (.int .i64 v57)), (14, (.int .i64 v58)), (15, (.int .i64 v73)), (114, (.bool (decide (v73 < ((l57 v63).length : Int)))))] [.cells [(.int .i64 v60), (.str v61), (.str v62), (.sl (l57 v63)), (.sl (l69 v64)), (.sl (l69 v65)), (.int .i64 v66)], .cells [(.int .i64 v67), (.int .i64 v68), (.int .i64 v69), (.int .i64 v70), (.int .i64 v71)]] (by kernel_rfl) ?_
                      refine AR_fin (by kernel_rfl) ?_
                      refine AE_seqN ?_
                      rcases Bool.eq_false_or_eq_true (decide (v73 < ((l57 v63).length : Int))) with h32 | h32
                      · replace h := bifT h32 h
                        refine AW_ifT (q := (decide (v73 < ((l57 v63).length : Int)))) (by kernel_rfl) h32 ?_
                        refine AE_skip ?_
                        refine AE_seqN ?_
                        refine AW_seq ?_
                        refine AW_block ?_
                        refine AW_seq ?_
                        obtain ⟨⟨v74, v75, v76, v77, v78, v79⟩, h33, h⟩ := Option.bind_eq_some_iff.mp h
                        try dsimp only at h
                        obtain ⟨v80, h34, h⟩ := Option.bind_eq_some_iff.mp h
                        try dsimp only at h
                        refine AW_reg ?_
                        refine AR_many hT 3 [0, 1, 6, 7, 8, 9, 11, 12, 13, 14, 15, 118, 119] [(0, (.sl (l69 v1))), (1, (.int .i64 v2)), (6, (.int .i64 v52)), (7, (.int .i64 v72)), (8, (.int .i64 v54)), (9, (.ptr 0 0)), (11, (.int .i64 v55)), (12, (.int .i64 v56)), (13, (.int .i64 v57)), (14, (.int .i64 v58)), (15, (.int .i64 v73)), (118, (.sl (l57 v63))), (119, (.int .i64 v73))] [.cells [(.int .i64 v60), (.str v61), (.str v62), (.sl (l57 v63)), (.sl (l69 v64)), (.sl (l69 v65)), (.int .i64 v66)], .cells [(.int .i64 v67), (.int .i64 v68), (.int .i64 v69), (.int .i64 v70), (.int .i64 v71)]] (by kernel_rfl) ?_
                        refine AR_op (by kernel_rfl) (OpJ_indexK hT (xs := l57 v63) (j := v73) (n := 6) (by kernel_rfl) (i57 h33) (by kernel_rfl)) ?_
                        refine AR_many hT 1 [0, 1, 6, 7, 8, 9, 11, 12, 13, 14, 15, 121] [(0, (.sl (l69 v1))), (1, (.int .i64 v2)), (6, (.int .i64 v52)), (7, (.int .i64 v72)), (8, (.int .i64 v54)), (9, (.ptr 0 0)), (11, (.int .i64 v55)), (12, (.int .i64 v56)), (13, (.int .i64 v57)), (14, (.int .i64 v58)), (15, (.int .i64 v73)), (121, (.agg [(.int .i64 v74), (.str v75), (.int .i64 v76), (.str v77), (.sl (l57 v78)), (.int .i64 v79)]))] [.cells [(.int .i64 v60), (.str v61), (.str v62), (.sl (l57 v63)), (.sl (l69 v64)), (.sl (l69 v65)), (.int .i64 v66)], .cells [(.int .i64 v67), (.int .i64 v68), (.int .i64 v69), (.int .i64 v70), (.int .i64 v71)]] (by kernel_rfl) ?_
                        refine AR_op (by kernel_rfl) (OpJ_callK (g := 82) (args := [(.agg [(.int .i64 v74), (.str v75), (.int .i64 v76), (.str v77), (.sl (l57 v78)), (.int .i64 v79)]), (.int .i64 12)]) (by kernel_rfl) Go.Proofs.Try.func82 (by kernel_rfl) (by kernel_rfl) (Fn_pure (F82_ok k30 v74 v75 v76 v77 v78 v79 12 v80 h34) (by simp [AV.low, AV.lows, AObj.low]) (by simp [AV.low, AV.lows, AObj.low]))) ?_
                        refine AR_many hT 1 [0, 1, 6, 7, 8, 9, 11, 12, 13, 14, 15, 16] [(0, (.sl (l69 v1))), (1, (.int .i64 v2)), (6, (.int .i64 v52)), (7, (.int .i64 v72)), (8, (.int .i64 v54)), (9, (.ptr 0 0)), (11, (.int .i64 v55)), (12, (.int .i64 v56)), (13, (.int .i64 v57)), (14, (.int .i64 v58)), (15, (.int .i64 v73)), (16, (.int .i64 v80))] [.cells [(.int .i64 v60), (.str v61), (.str v62), (.sl (l57 v63)), (.sl (l69 v64)), (.sl (l69 v65)), (.int .i64 v66)], .cells [(.int .i64 v67), (.int .i64 v68), (.int .i64 v69), (.int .i64 v70), (.int .i64 v71)]] (by kernel_rfl) ?_
                        refine AR_fin (by kernel_rfl) ?_
                        refine AE_seqN ?_
                        refine AW_seq ?_
                        refine AW_seq ?_
                        refine AW_reg ?_
                        refine AR_many hT 2 [0, 1, 6, 7, 8, 9, 11, 12, 13, 14, 15, 16, 124] [(0, (.sl (l69 v1))), (1, (.int .i64 v2)), (6, (.int .i64 v52)), (7, (.int .i64 v72)), (8, (.int .i64 v54)), (9, (.ptr 0 0)), (11, (.int .i64 v55)), (12, (.int .i64 v56)), (13, (.int .i64 v57)), (14, (.int .i64 v58)), (15, (.int .i64 v73)), (16, (.int .i64 v80)), (124, (.bool (decide (v80 < 0))))] [.cells [(.int .i64 v60), (.str v61), (.str v62), (.sl (l57 v63)), (.sl (l69 v64)), (.sl (l69 v65)), (.int .i64 v66)], .cells [(.int .i64 v67), (.int .i64 v68), (.int .i64 v69), (.int .i64 v70), (.int .i64 v71)]] (by kernel_rfl) ?_
                        refine AR_fin (by kernel_rfl) ?_
                        refine AE_seqN ?_
                        rcases Bool.eq_false_or_eq_true (decide (v80 < 0)) with h35 | h35
                        · replace h := bifT h35 h
                          refine AW_ifT (q := (decide (v80 < 0))) (by kernel_rfl) h35 ?_
                          refine AW_seq ?_
                          refine AW_reg ?_
                          refine AR_many hT 2 [4, 5] [(4, (.int .i64 (-1))), (5, (.int .i64 0))] [.cells [(.int .i64 v60), (.str v61), (.str v62), (.sl (l57 v63)), (.sl (l69 v64)), (.sl (l69 v65)), (.int .i64 v66)], .cells [(.int .i64 v67), (.int .i64 v68), (.int .i64 v69), (.int .i64 v70), (.int .i64 v71)]] (by kernel_rfl) ?_
                          refine AR_fin (by kernel_rfl) ?_
                          refine AE_seqN ?_
                          refine AE_ret ?_
                          refine AE_seqR ?_
                          refine AE_blkR ?_
                          refine AE_seqR ?_
                          refine AE_seqR ?_
                          refine AE_blkR ?_
                          refine AE_seqR ?_
                          refine AE_blkR ?_
                          refine AE_seqR ?_
                          refine AE_seqR ?_
                          refine AE_blkR ?_
                          refine AE_seqR ?_
                          refine AE_keep [4, 5] (env' := [(4, (.int .i64 (-1))), (5, (.int .i64 0))]) (by kernel_rfl) ?_
                          simp only [Option.some.injEq, Prod.mk.injEq] at h
                          obtain ⟨rfl, rfl⟩ := h
                          exact AE_done ⟨trivial, by kernel_rfl, by kernel_rfl, by simp [AV.low, AV.lows, AObj.low], by simp [AV.low, AV.lows, AObj.low]⟩
                        · replace h := bifF h35 h
                          refine AW_ifF (q := (decide (v80 < 0))) (by kernel_rfl) h35 ?_
                          refine AE_skip ?_
                          refine AE_seqN ?_
                          refine AW_reg ?_
                          refine AR_many hT 4 [0, 1, 6, 7, 8, 9, 11, 12, 13, 14, 15] [(0, (.sl (l69 v1))), (1, (.int .i64 v2)), (6, (.int .i64 v52)), (7, (.int .i64 (IntKind.wrap .i64 (v72 + v80)))), (8, (.int .i64 v54)), (9, (.ptr 0 0)), (11, (.int .i64 v55)), (12, (.int .i64 v56)), (13, (.int .i64 v57)), (14, (.int .i64 v58)), (15, (.int .i64 v73))] [.cells [(.int .i64 v60), (.str v61), (.str v62), (.sl (l57 v63)), (.sl (l69 v64)), (.sl (l69 v65)), (.int .i64 v66)], .cells [(.int .i64 v67), (.int .i64 v68), (.int .i64 v69), (.int .i64 v70), (.int .i64 v71)]] (by kernel_rfl) ?_
                          refine AR_fin (by kernel_rfl) ?_
                          refine AE_blkN ?_
                          refine AE_seqN ?_
                          refine AW_reg ?_
                          refine AR_many hT 3 [0, 1, 6, 7, 8, 9, 11, 12, 13, 14, 15] [(0, (.sl (l69 v1))), (1, (.int .i64 v2)), (6, (.int .i64 v52)), (7, (.int .i64 (IntKind.wrap .i64 (v72 + v80)))), (8, (.int .i64 v54)), (9, (.ptr 0 0)), (11, (.int .i64 v55)), (12, (.int .i64 v56)), (13, (.int .i64 v57)), (14, (.int .i64 v58)), (15, (.int .i64 (IntKind.wrap .i64 (v73 + 1))))] [.cells [(.int .i64 v60), (.str v61), (.str v62), (.sl (l57 v63)), (.sl (l69 v64)), (.sl (l69 v65)), (.int .i64 v66)], .cells [(.int .i64 v67), (.int .i64 v68), (.int .i64 v69), (.int .i64 v70), (.int .i64 v71)]] (by kernel_rfl) ?_
                          refine AR_fin (by kernel_rfl) ?_
                          refine AE_keep [0, 1, 6, 7, 8, 9, 11, 12, 13, 14, 15] (env' := [(0, (.sl (l69 v1))), (1, (.int .i64 v2)), (6, (.int .i64 v52)), (7, (.int .i64 (IntKind.wrap .i64 (v72 + v80)))), (8, (.int .i64 v54)), (9, (.ptr 0 0)), (11, (.int .i64 v55)), (12, (.int .i64 v56)), (13, (.int .i64 v57)), (14, (.int .i64 v58)), (15, (.int .i64 (IntKind.wrap .i64 (v73 + 1))))]) (by kernel_rfl) ?_
                          exact AE_done ⟨k30, by omega, by omega, (IntKind.wrap .i64 (v72 + v80)), (IntKind.wrap .i64 (v73 + 1)), rfl, rfl, h⟩
                      · replace h := bifF h32 h
                        refine AW_ifF (q := (decide (v73 < ((l57 v63).length : Int)))) (by kernel_rfl) h32 ?_
                        refine AE_exit ?_
                        refine AE_seqX ?_
                        refine AE_seqX ?_
                        refine AE_blkH ?_
                        refine AE_seqN ?_
                        refine AW_seq ?_
                        refine AW_reg ?_
                        refine AR_many hT 7 [0, 1, 6, 7, 8, 12, 14] [(0, (.sl (l69 v1))), (1, (.int .i64 v2)), (6, (.int .i64 (IntKind.wrap .i64 ((IntKind.wrap .i64 ((IntKind.wrap .i64 (v52 + 1)) + v55)) + v57)))), (7, (.int .i64 v72)), (8, (.int .i64 v54)), (12, (.int .i64 v56)), (14, (.int .i64 v58))] [.cells [(.int .i64 v60), (.str v61), (.str v62), (.sl (l57 v63)), (.sl (l69 v64)), (.sl (l69 v65)), (.int .i64 v66)], .cells [(.int .i64 v67), (.int .i64 v68), (.int .i64 v69), (.int .i64 v70), (.int .i64 v71)]] (by kernel_rfl) ?_
                        refine AR_fin (by kernel_rfl) ?_
                        refine AE_seqN ?_
                        refine AW_seq ?_
                        refine AW_reg ?_
                        refine AR_many hT 6 [0, 1, 6, 7, 8] [(0, (.sl (l69 v1))), (1, (.int .i64 v2)), (6, (.int .i64 (IntKind.wrap .i64 ((IntKind.wrap .i64 ((IntKind.wrap .i64 (v52 + 1)) + v55)) + v57)))), (7, (.int .i64 (IntKind.wrap .i64 ((IntKind.wrap .i64 (v72 + v56)) + v58)))), (8, (.int .i64 v54))] [.cells [(.int .i64 v60), (.str v61), (.str v62), (.sl (l57 v63)), (.sl (l69 v64)), (.sl (l69 v65)), (.int .i64 v66)], .cells [(.int .i64 v67), (.int .i64 v68), (.int .i64 v69), (.int .i64 v70), (.int .i64 v71)]] (by kernel_rfl) ?_
                        refine AR_fin (by kernel_rfl) ?_
                        refine AE_seqN ?_
                        refine AW_join (fun env L => ∃ (v81 : Int) (v82 : Int) (v83 : Int) (v84 : Bool) (v85 : Int) (v86 : ByteArray) (v87 : ByteArray) (v88 : (List T57)) (v89 : (List T69)) (v90 : (List T69)) (v91 : Int) (v92 : Int) (v93 : Int) (v94 : Int) (v95 : Int) (v96 : Int), env = [(0, (.sl (l69 v1))), (1, (.int .i64 v2)), (6, (.int .i64 v81)), (7, (.int .i64 v82)), (8, (.int .i64 v83)), (144, (.bool v84))] ∧ L = [.cells [(.int .i64 v85), (.str v86), (.str v87), (.sl (l57 v88)), (.sl (l69 v89)), (.sl (l69 v90)), (.int .i64 v91)], .cells [(.int .i64 v92), (.int .i64 v93), (.int .i64 v94), (.int .i64 v95), (.int .i64 v96)]] ∧ ∃ n, n ≤ k30 ∧ F39_j5 n v1 v2 v81 v82 v83 v84 = some (r1, r2)) ?_ ?_
                        · rcases Bool.eq_false_or_eq_true (decide ((IntKind.wrap .i64 ((IntKind.wrap .i64 ((IntKind.wrap .i64 (v52 + 1)) + v55)) + v57)) > 200)) with h36 | h36
                          · replace h := bifT h36 h
                            refine AW_reg ?_
                            refine AR_many hT 2 [0, 1, 6, 7, 8, 140] [(0, (.sl (l69 v1))), (1, (.int .i64 v2)), (6, (.int .i64 (IntKind.wrap .i64 ((IntKind.wrap .i64 ((IntKind.wrap .i64 (v52 + 1)) + v55)) + v57)))), (7, (.int .i64 (IntKind.wrap .i64 ((IntKind.wrap .i64 (v72 + v56)) + v58)))), (8, (.int .i64 v54)), (140, (.bool (decide ((IntKind.wrap .i64 ((IntKind.wrap .i64 ((IntKind.wrap .i64 (v52 + 1)) + v55)) + v57)) > 200))))] [.cells [(.int .i64 v60), (.str v61), (.str v62), (.sl (l57 v63)), (.sl (l69 v64)), (.sl (l69 v65)), (.int .i64 v66)], .cells [(.int .i64 v67), (.int .i64 v68), (.int .i64 v69), (.int .i64 v70), (.int .i64 v71)]] (by kernel_rfl) ?_
                            refine AR_op (by kernel_rfl) (OpJ_boolK hT (q := (decide ((IntKind.wrap .i64 ((IntKind.wrap .i64 ((IntKind.wrap .i64 (v52 + 1)) + v55)) + v57)) > 200))) (by kernel_rfl) h36) ?_
                            refine AR_many hT 3 [0, 1, 6, 7, 8, 144] [(0, (.sl (l69 v1))), (1, (.int .i64 v2)), (6, (.int .i64 (IntKind.wrap .i64 ((IntKind.wrap .i64 ((IntKind.wrap .i64 (v52 + 1)) + v55)) + v57)))), (7, (.int .i64 (IntKind.wrap .i64 ((IntKind.wrap .i64 (v72 + v56)) + v58)))), (8, (.int .i64 v54)), (144, (.bool true))] [.cells [(.int .i64 v60), (.str v61), (.str v62), (.sl (l57 v63)), (.sl (l69 v64)), (.sl (l69 v65)), (.int .i64 v66)], .cells [(.int .i64 v67), (.int .i64 v68), (.int .i64 v69), (.int .i64 v70), (.int .i64 v71)]] (by kernel_rfl) ?_
                            refine AR_fin (by kernel_rfl) ?_
                            refine AE_keep [0, 1, 6, 7, 8, 144] (env' := [(0, (.sl (l69 v1))), (1, (.int .i64 v2)), (6, (.int .i64 (IntKind.wrap .i64 ((IntKind.wrap .i64 ((IntKind.wrap .i64 (v52 + 1)) + v55)) + v57)))), (7, (.int .i64 (IntKind.wrap .i64 ((IntKind.wrap .i64 (v72 + v56)) + v58)))), (8, (.int .i64 v54)), (144, (.bool true))]) (by kernel_rfl) ?_
                            exact AE_done ⟨(IntKind.wrap .i64 ((IntKind.wrap .i64 ((IntKind.wrap .i64 (v52 + 1)) + v55)) + v57)), (IntKind.wrap .i64 ((IntKind.wrap .i64 (v72 + v56)) + v58)), v54, true, v60, v61, v62, v63, v64, v65, v66, v67, v68, v69, v70, v71, rfl, rfl, k30, Nat.le_refl _, h⟩
                          · replace h := bifF h36 h
                            refine AW_reg ?_
                            refine AR_many hT 2 [0, 1, 6, 7, 8, 140] [(0, (.sl (l69 v1))), (1, (.int .i64 v2)), (6, (.int .i64 (IntKind.wrap .i64 ((IntKind.wrap .i64 ((IntKind.wrap .i64 (v52 + 1)) + v55)) + v57)))), (7, (.int .i64 (IntKind.wrap .i64 ((IntKind.wrap .i64 (v72 + v56)) + v58)))), (8, (.int .i64 v54)), (140, (.bool (decide ((IntKind.wrap .i64 ((IntKind.wrap .i64 ((IntKind.wrap .i64 (v52 + 1)) + v55)) + v57)) > 200))))] [.cells [(.int .i64 v60), (.str v61), (.str v62), (.sl (l57 v63)), (.sl (l69 v64)), (.sl (l69 v65)), (.int .i64 v66)], .cells [(.int .i64 v67), (.int .i64 v68), (.int .i64 v69), (.int .i64 v70), (.int .i64 v71)]] (by kernel_rfl) ?_
                            refine AR_op (by kernel_rfl) (OpJ_boolK hT (q := (decide ((IntKind.wrap .i64 ((IntKind.wrap .i64 ((IntKind.wrap .i64 (v52 + 1)) + v55)) + v57)) > 200))) (by kernel_rfl) h36) ?_
                            refine AR_many hT 3 [0, 1, 6, 7, 8, 144] [(0, (.sl (l69 v1))), (1, (.int .i64 v2)), (6, (.int .i64 (IntKind.wrap .i64 ((IntKind.wrap .i64 ((IntKind.wrap .i64 (v52 + 1)) + v55)) + v57)))), (7, (.int .i64 (IntKind.wrap .i64 ((IntKind.wrap .i64 (v72 + v56)) + v58)))), (8, (.int .i64 v54)), (144, (.bool (decide ((IntKind.wrap .i64 ((IntKind.wrap .i64 (v72 + v56)) + v58)) > 8192))))] [.cells [(.int .i64 v60), (.str v61), (.str v62), (.sl (l57 v63)), (.sl (l69 v64)), (.sl (l69 v65)), (.int .i64 v66)], .cells [(.int .i64 v67), (.int .i64 v68), (.int .i64 v69), (.int .i64 v70), (.int .i64 v71)]] (by kernel_rfl) ?_
                            refine AR_fin (by kernel_rfl) ?_
                            refine AE_keep [0, 1, 6, 7, 8, 144] (env' := [(0, (.sl (l69 v1))), (1, (.int .i64 v2)), (6, (.int .i64 (IntKind.wrap .i64 ((IntKind.wrap .i64 ((IntKind.wrap .i64 (v52 + 1)) + v55)) + v57)))), (7, (.int .i64 (IntKind.wrap .i64 ((IntKind.wrap .i64 (v72 + v56)) + v58)))), (8, (.int .i64 v54)), (144, (.bool (decide ((IntKind.wrap .i64 ((IntKind.wrap .i64 (v72 + v56)) + v58)) > 8192))))]) (by kernel_rfl) ?_
                            exact AE_done ⟨(IntKind.wrap .i64 ((IntKind.wrap .i64 ((IntKind.wrap .i64 (v52 + 1)) + v55)) + v57)), (IntKind.wrap .i64 ((IntKind.wrap .i64 (v72 + v56)) + v58)), v54, (decide ((IntKind.wrap .i64 ((IntKind.wrap .i64 (v72 + v56)) + v58)) > 8192)), v60, v61, v62, v63, v64, v65, v66, v67, v68, v69, v70, v71, rfl, rfl, k30, Nat.le_refl _, h⟩
                        · rintro _ _ ⟨v81, v82, v83, v84, v85, v86, v87, v88, v89, v90, v91, v92, v93, v94, v95, v96, rfl, rfl, n, hn, h⟩
                          obtain _ | k37 := n
                          · rw [F39_j5] at h; cases h
                          have h38 : k37 < (k + 1) := by omega
                          rw [F39_j5] at h
                          rcases Bool.eq_false_or_eq_true v84 with h39 | h39
                          · replace h := bifT h39 h
                            refine AW_ifT (q := v84) (by kernel_rfl) h39 ?_
                            refine AW_seq ?_
                            refine AW_reg ?_
                            refine AR_many hT 2 [4, 5] [(4, (.int .i64 (-1))), (5, (.int .i64 0))] [.cells [(.int .i64 v85), (.str v86), (.str v87), (.sl (l57 v88)), (.sl (l69 v89)), (.sl (l69 v90)), (.int .i64 v91)], .cells [(.int .i64 v92), (.int .i64 v93), (.int .i64 v94), (.int .i64 v95), (.int .i64 v96)]] (by kernel_rfl) ?_
                            refine AR_fin (by kernel_rfl) ?_
                            refine AE_seqN ?_
                            refine AE_ret ?_
                            refine AE_blkR ?_
                            refine AE_seqR ?_
                            refine AE_seqR ?_
                            refine AE_blkR ?_
                            refine AE_seqR ?_
                            refine AE_keep [4, 5] (env' := [(4, (.int .i64 (-1))), (5, (.int .i64 0))]) (by kernel_rfl) ?_
                            simp only [Option.some.injEq, Prod.mk.injEq] at h
                            obtain ⟨rfl, rfl⟩ := h
                            exact AE_done ⟨trivial, by kernel_rfl, by kernel_rfl, by simp [AV.low, AV.lows, AObj.low], by simp [AV.low, AV.lows, AObj.low]⟩
                          · replace h := bifF h39 h
                            refine AW_ifF (q := v84) (by kernel_rfl) h39 ?_
                            refine AE_skip ?_
                            refine AE_blkN ?_
                            refine AE_seqN ?_
                            refine AW_reg ?_
                            refine AR_many hT 3 [0, 1, 6, 7, 8] [(0, (.sl (l69 v1))), (1, (.int .i64 v2)), (6, (.int .i64 v81)), (7, (.int .i64 v82)), (8, (.int .i64 (IntKind.wrap .i64 (v83 + 1))))] [.cells [(.int .i64 v85), (.str v86), (.str v87), (.sl (l57 v88)), (.sl (l69 v89)), (.sl (l69 v90)), (.int .i64 v91)], .cells [(.int .i64 v92), (.int .i64 v93), (.int .i64 v94), (.int .i64 v95), (.int .i64 v96)]] (by kernel_rfl) ?_
                            refine AR_fin (by kernel_rfl) ?_
                            refine AE_keep [0, 1, 6, 7, 8] (env' := [(0, (.sl (l69 v1))), (1, (.int .i64 v2)), (6, (.int .i64 v81)), (7, (.int .i64 v82)), (8, (.int .i64 (IntKind.wrap .i64 (v83 + 1))))]) (by kernel_rfl) ?_
                            refine AE_drop 0 (by kernel_rfl) (low_env (by simp [AV.low, AV.lows, AObj.low])) (by simp [AV.low, AV.lows, AObj.low]) (L' := []) (by kernel_rfl) ?_
                            exact AE_done ⟨k37, by omega, by omega, v81, v82, (IntKind.wrap .i64 (v83 + 1)), rfl, rfl, h⟩
      · replace h := bifF h3 h
        refine AW_ifF (q := (decide (v5 < ((l69 v1).length : Int)))) (by kernel_rfl) h3 ?_
        refine AE_exit ?_
        refine AE_seqX ?_
        refine AE_seqX ?_
        refine AE_blkH ?_
        refine AE_seqN ?_
        refine AW_seq ?_
        refine AW_reg ?_
        refine AR_many hT 4 [4, 5] [(4, (.int .i64 v3)), (5, (.int .i64 v4))] [] (by kernel_rfl) ?_
        refine AR_fin (by kernel_rfl) ?_
        refine AE_seqN ?_
        refine AE_ret ?_
        refine AE_keep [4, 5] (env' := [(4, (.int .i64 v3)), (5, (.int .i64 v4))]) (by kernel_rfl) ?_
        simp only [Option.some.injEq, Prod.mk.injEq] at h
        obtain ⟨rfl, rfl⟩ := h
        exact AE_done ⟨trivial, by kernel_rfl, by kernel_rfl, by simp [AV.low, AV.lows, AObj.low], by simp [AV.low, AV.lows, AObj.low]⟩

theorem F39_all (K0 : Nat) : (∀ (v1 : (List T69)) (v2 : Int) (r1 : Int) (r2 : Int), F39 K0 v1 v2 = some (r1, r2) → Fn prog 39 [(.sl (l69 v1)), (.int .i64 v2)] [] (.tup [(.int .i64 r1), (.int .i64 r2)]) []) := by
  induction K0 using Nat.strongRecOn with
  | ind K0 ih => exact F39_step K0 (fun k hk => (ih k hk))

theorem F39_ok (K0 : Nat) : ∀ (v1 : (List T69)) (v2 : Int) (r1 : Int) (r2 : Int), F39 K0 v1 v2 = some (r1, r2) → Fn prog 39 [(.sl (l69 v1)), (.int .i64 v2)] [] (.tup [(.int .i64 r1), (.int .i64 r2)]) [] := (F39_all K0)

def F13_j5 (k34 : Nat) (v17 : Int) (v18 : Int) (v35 : Bool) : Option (Int × Int) :=
  (bif v35 then
    some ((-1), 0)
  else
    some (v17, v18))

mutual
def F13_j4 : Nat → (List T34) → Int → Int → Int → Int → Int → Bool → Option (Int × Int)
  | 0, _, _, _, _, _, _, _ => none
  | k30 + 1, v3, v25, v26, v27, v28, v29, v30 =>
    (bif v30 then
      some ((-1), 0)
    else
      F13_l3 k30 v3 (IntKind.wrap .i64 (v25 + v28)) (IntKind.wrap .i64 (v26 + v29)) (IntKind.wrap .i64 (v27 + 1)))
def F13_l3 : Nat → (List T34) → Int → Int → Int → Option (Int × Int)
  | 0, _, _, _, _ => none
  | k22 + 1, v3, v17, v18, v19 =>
    (bif (decide (v19 < ((l34 v3).length : Int))) then
      ((idx v3 v19).bind fun ⟨v20, v21, v22⟩ =>
        ((F39 k22 v21 12).bind fun ⟨v23, v24⟩ =>
          (bif (decide (v23 < 0)) then
            F13_j4 k22 v3 v17 v18 v19 v23 v24 true
          else
            ((idx v3 v19).bind fun ⟨v31, v32, v33⟩ =>
              ((F38 k22 v31).bind fun v34 =>
                F13_j4 k22 v3 v17 v18 v19 v23 v24 (!v34))))))
    else
      (bif (decide (v17 > 200)) then
        F13_j5 k22 v17 v18 true
      else
        F13_j5 k22 v17 v18 (decide (v18 > 8192))))
end

mutual
def F13_j2 : Nat → (List T76) → (List T34) → Int → Bool → Option (Int × Int)
  | 0, _, _, _, _ => none
  | k19 + 1, v2, v3, v10, v11 =>
    (bif v11 then
      some ((-1), 0)
    else
      F13_l1 k19 v2 v3 (IntKind.wrap .i64 (v10 + 1)))
def F13_l1 : Nat → (List T76) → (List T34) → Int → Option (Int × Int)
  | 0, _, _, _ => none
  | k8 + 1, v2, v3, v5 =>
    (bif (decide (v5 < ((l76 v2).length : Int))) then
      ((idx v2 v5).bind fun ⟨v6, v7, v8, v9⟩ =>
        (bif (decide (v6 < 1)) then
          F13_j2 k8 v2 v3 v5 true
        else
          (bif (decide (v6 > 4)) then
            F13_j2 k8 v2 v3 v5 true
          else
            ((F38 k8 v7).bind fun v16 =>
              (bif (!v16) then
                F13_j2 k8 v2 v3 v5 true
              else
                (bif (decide (v8 < 0)) then
                  F13_j2 k8 v2 v3 v5 true
                else
                  (bif (decide (v8 > 65535)) then
                    F13_j2 k8 v2 v3 v5 true
                  else
                    (bif (v6 == 3) then
                      F13_j2 k8 v2 v3 v5 (v8 != 0)
                    else
                      F13_j2 k8 v2 v3 v5 false))))))))
    else
      F13_l3 k8 v3 0 0 0)
end

def F13_j0 (k5 : Nat) (v2 : (List T76)) (v3 : (List T34)) (v4 : Bool) : Option (Int × Int) :=
  (bif v4 then
    some ((-1), 0)
  else
    F13_l1 k5 v2 v3 0)

def F13 (k : Nat) (v1 : Int) (v2 : (List T76)) (v3 : (List T34)) : Option (Int × Int) :=
  (bif (decide (v1 < 0)) then
    F13_j0 k v2 v3 true
  else
    (bif (decide (v1 > 65535)) then
      F13_j0 k v2 v3 true
    else
      (bif (decide (((l76 v2).length : Int) > 12)) then
        F13_j0 k v2 v3 true
      else
        (bif (decide (((l34 v3).length : Int) < 1)) then
          F13_j0 k v2 v3 true
        else
          F13_j0 k v2 v3 (decide (((l34 v3).length : Int) > 6))))))

theorem F13_ok (k : Nat) : ∀ (v1 : Int) (v2 : (List T76)) (v3 : (List T34)) (r1 : Int) (r2 : Int), F13 k v1 v2 v3 = some (r1, r2) → Fn prog 13 [(.agg [(.int .i64 v1), (.sl (l76 v2)), (.sl (l34 v3))])] [] (.tup [(.int .i64 r1), (.int .i64 r2)]) [] := by
  intro v1 v2 v3 r1 r2 h
  rw [F13] at h
  refine Fn_bodyK hT Go.Proofs.Try.func13 (c := Go.Proofs.Try.f13.body.getD .skip) (by kernel_rfl) (by kernel_rfl) (by kernel_rfl) ?_
  refine AW_seq ?_
  refine AW_reg ?_
  refine AR_many hT 3 [1] [(1, (.ptr 0 0))] [.cells [(.int .i64 v1), (.sl (l76 v2)), (.sl (l34 v3))]] (by kernel_rfl) ?_
  refine AR_fin (by kernel_rfl) ?_
  refine AE_seqN ?_
  refine AW_seq ?_
  refine AW_join (fun env L => ∃ (v4 : Bool), env = [(1, (.ptr 0 0)), (36, (.bool v4))] ∧ L = [.cells [(.int .i64 v1), (.sl (l76 v2)), (.sl (l34 v3))]] ∧ ∃ n, n ≤ k ∧ F13_j0 n v2 v3 v4 = some (r1, r2)) ?_ ?_
  · rcases Bool.eq_false_or_eq_true (decide (v1 < 0)) with h1 | h1
    · replace h := bifT h1 h
      refine AW_reg ?_
      refine AR_many hT 3 [1, 13] [(1, (.ptr 0 0)), (13, (.bool (decide (v1 < 0))))] [.cells [(.int .i64 v1), (.sl (l76 v2)), (.sl (l34 v3))]] (by kernel_rfl) ?_
      refine AR_op (by kernel_rfl) (OpJ_boolK hT (q := (decide (v1 < 0))) (by kernel_rfl) h1) ?_
      refine AR_many hT 22 [1, 36] [(1, (.ptr 0 0)), (36, (.bool true))] [.cells [(.int .i64 v1), (.sl (l76 v2)), (.sl (l34 v3))]] (by kernel_rfl) ?_
      refine AR_fin (by kernel_rfl) ?_
      refine AE_keep [1, 36] (env' := [(1, (.ptr 0 0)), (36, (.bool true))]) (by kernel_rfl) ?_
      exact AE_done ⟨true, rfl, rfl, k, Nat.le_refl _, h⟩
    · replace h := bifF h1 h
      rcases Bool.eq_false_or_eq_true (decide (v1 > 65535)) with h2 | h2
      · replace h := bifT h2 h
        refine AW_reg ?_
        refine AR_many hT 3 [1, 13] [(1, (.ptr 0 0)), (13, (.bool (decide (v1 < 0))))] [.cells [(.int .i64 v1), (.sl (l76 v2)), (.sl (l34 v3))]] (by kernel_rfl) ?_
        refine AR_op (by kernel_rfl) (OpJ_boolK hT (q := (decide (v1 < 0))) (by kernel_rfl) h1) ?_
        refine AR_many hT 4 [1, 18] [(1, (.ptr 0 0)), (18, (.bool (decide (v1 > 65535))))] [.cells [(.int .i64 v1), (.sl (l76 v2)), (.sl (l34 v3))]] (by kernel_rfl) ?_
        refine AR_op (by kernel_rfl) (OpJ_boolK hT (q := (decide (v1 > 65535))) (by kernel_rfl) h2) ?_
        refine AR_many hT 17 [1, 36] [(1, (.ptr 0 0)), (36, (.bool true))] [.cells [(.int .i64 v1), (.sl (l76 v2)), (.sl (l34 v3))]] (by kernel_rfl) ?_
        refine AR_fin (by kernel_rfl) ?_
        refine AE_keep [1, 36] (env' := [(1, (.ptr 0 0)), (36, (.bool true))]) (by kernel_rfl) ?_
        exact AE_done ⟨true, rfl, rfl, k, Nat.le_refl _, h⟩
      · replace h := bifF h2 h
        rcases Bool.eq_false_or_eq_true (decide (((l76 v2).length : Int) > 12)) with h3 | h3
        · replace h := bifT h3 h
          refine AW_reg ?_
          refine AR_many hT 3 [1, 13] [(1, (.ptr 0 0)), (13, (.bool (decide (v1 < 0))))] [.cells [(.int .i64 v1), (.sl (l76 v2)), (.sl (l34 v3))]] (by kernel_rfl) ?_
          refine AR_op (by kernel_rfl) (OpJ_boolK hT (q := (decide (v1 < 0))) (by kernel_rfl) h1) ?_
          refine AR_many hT 4 [1, 18] [(1, (.ptr 0 0)), (18, (.bool (decide (v1 > 65535))))] [.cells [(.int .i64 v1), (.sl (l76 v2)), (.sl (l34 v3))]] (by kernel_rfl) ?_
          refine AR_op (by kernel_rfl) (OpJ_boolK hT (q := (decide (v1 > 65535))) (by kernel_rfl) h2) ?_
          refine AR_many hT 5 [1, 24] [(1, (.ptr 0 0)), (24, (.bool (decide (((l76 v2).length : Int) > 12))))] [.cells [(.int .i64 v1), (.sl (l76 v2)), (.sl (l34 v3))]] (by kernel_rfl) ?_
          refine AR_op (by kernel_rfl) (OpJ_boolK hT (q := (decide (((l76 v2).length : Int) > 12))) (by kernel_rfl) h3) ?_
          refine AR_many hT 11 [1, 36] [(1, (.ptr 0 0)), (36, (.bool true))] [.cells [(.int .i64 v1), (.sl (l76 v2)), (.sl (l34 v3))]] (by kernel_rfl) ?_
          refine AR_fin (by kernel_rfl) ?_
          refine AE_keep [1, 36] (env' := [(1, (.ptr 0 0)), (36, (.bool true))]) (by kernel_rfl) ?_
          exact AE_done ⟨true, rfl, rfl, k, Nat.le_refl _, h⟩
        · replace h := bifF h3 h
          rcases Bool.eq_false_or_eq_true (decide (((l34 v3).length : Int) < 1)) with h4 | h4
          · replace h := bifT h4 h
            refine AW_reg ?_
            refine AR_many hT 3 [1, 13] [(1, (.ptr 0 0)), (13, (.bool (decide (v1 < 0))))] [.cells [(.int .i64 v1), (.sl (l76 v2)), (.sl (l34 v3))]] (by kernel_rfl) ?_
            refine AR_op (by kernel_rfl) (OpJ_boolK hT (q := (decide (v1 < 0))) (by kernel_rfl) h1) ?_
            refine AR_many hT 4 [1, 18] [(1, (.ptr 0 0)), (18, (.bool (decide (v1 > 65535))))] [.cells [(.int .i64 v1), (.sl (l76 v2)), (.sl (l34 v3))]] (by kernel_rfl) ?_
            refine AR_op (by kernel_rfl) (OpJ_boolK hT (q := (decide (v1 > 65535))) (by kernel_rfl) h2) ?_
            refine AR_many hT 5 [1, 24] [(1, (.ptr 0 0)), (24, (.bool (decide (((l76 v2).length : Int) > 12))))] [.cells [(.int .i64 v1), (.sl (l76 v2)), (.sl (l34 v3))]] (by kernel_rfl) ?_
            refine AR_op (by kernel_rfl) (OpJ_boolK hT (q := (decide (((l76 v2).length : Int) > 12))) (by kernel_rfl) h3) ?_
            refine AR_many hT 5 [1, 30] [(1, (.ptr 0 0)), (30, (.bool (decide (((l34 v3).length : Int) < 1))))] [.cells [(.int .i64 v1), (.sl (l76 v2)), (.sl (l34 v3))]] (by kernel_rfl) ?_
            refine AR_op (by kernel_rfl) (OpJ_boolK hT (q := (decide (((l34 v3).length : Int) < 1))) (by kernel_rfl) h4) ?_
            refine AR_many hT 5 [1, 36] [(1, (.ptr 0 0)), (36, (.bool true))] [.cells [(.int .i64 v1), (.sl (l76 v2)), (.sl (l34 v3))]] (by kernel_rfl) ?_
            refine AR_fin (by kernel_rfl) ?_
            refine AE_keep [1, 36] (env' := [(1, (.ptr 0 0)), (36, (.bool true))]) (by kernel_rfl) ?_
            exact AE_done ⟨true, rfl, rfl, k, Nat.le_refl _, h⟩
          · replace h := bifF h4 h
            refine AW_reg ?_
            refine AR_many hT 3 [1, 13] [(1, (.ptr 0 0)), (13, (.bool (decide (v1 < 0))))] [.cells [(.int .i64 v1), (.sl (l76 v2)), (.sl (l34 v3))]] (by kernel_rfl) ?_
            refine AR_op (by kernel_rfl) (OpJ_boolK hT (q := (decide (v1 < 0))) (by kernel_rfl) h1) ?_
            refine AR_many hT 4 [1, 18] [(1, (.ptr 0 0)), (18, (.bool (decide (v1 > 65535))))] [.cells [(.int .i64 v1), (.sl (l76 v2)), (.sl (l34 v3))]] (by kernel_rfl) ?_
            refine AR_op (by kernel_rfl) (OpJ_boolK hT (q := (decide (v1 > 65535))) (by kernel_rfl) h2) ?_
            refine AR_many hT 5 [1, 24] [(1, (.ptr 0 0)), (24, (.bool (decide (((l76 v2).length : Int) > 12))))] [.cells [(.int .i64 v1), (.sl (l76 v2)), (.sl (l34 v3))]] (by kernel_rfl) ?_
            refine AR_op (by kernel_rfl) (OpJ_boolK hT (q := (decide (((l76 v2).length : Int) > 12))) (by kernel_rfl) h3) ?_
            refine AR_many hT 5 [1, 30] [(1, (.ptr 0 0)), (30, (.bool (decide (((l34 v3).length : Int) < 1))))] [.cells [(.int .i64 v1), (.sl (l76 v2)), (.sl (l34 v3))]] (by kernel_rfl) ?_
            refine AR_op (by kernel_rfl) (OpJ_boolK hT (q := (decide (((l34 v3).length : Int) < 1))) (by kernel_rfl) h4) ?_
            refine AR_many hT 5 [1, 36] [(1, (.ptr 0 0)), (36, (.bool (decide (((l34 v3).length : Int) > 6))))] [.cells [(.int .i64 v1), (.sl (l76 v2)), (.sl (l34 v3))]] (by kernel_rfl) ?_
            refine AR_fin (by kernel_rfl) ?_
            refine AE_keep [1, 36] (env' := [(1, (.ptr 0 0)), (36, (.bool (decide (((l34 v3).length : Int) > 6))))]) (by kernel_rfl) ?_
            exact AE_done ⟨(decide (((l34 v3).length : Int) > 6)), rfl, rfl, k, Nat.le_refl _, h⟩
  · rintro _ _ ⟨v4, rfl, rfl, n, hn, h⟩
    obtain ⟨k5, rfl⟩ : ∃ q, q = n := ⟨n, rfl⟩
    rw [F13_j0] at h
    rcases Bool.eq_false_or_eq_true v4 with h7 | h7
    · replace h := bifT h7 h
      refine AW_ifT (q := v4) (by kernel_rfl) h7 ?_
      refine AW_seq ?_
      refine AW_reg ?_
      refine AR_many hT 2 [2, 3] [(2, (.int .i64 (-1))), (3, (.int .i64 0))] [.cells [(.int .i64 v1), (.sl (l76 v2)), (.sl (l34 v3))]] (by kernel_rfl) ?_
      refine AR_fin (by kernel_rfl) ?_
      refine AE_seqN ?_
      refine AE_ret ?_
      refine AE_seqR ?_
      refine AE_keep [2, 3] (env' := [(2, (.int .i64 (-1))), (3, (.int .i64 0))]) (by kernel_rfl) ?_
      simp only [Option.some.injEq, Prod.mk.injEq] at h
      obtain ⟨rfl, rfl⟩ := h
      exact AE_done ⟨trivial, by kernel_rfl, by kernel_rfl, by simp [AV.low, AV.lows, AObj.low], by simp [AV.low, AV.lows, AObj.low]⟩
    · replace h := bifF h7 h
      refine AW_ifF (q := v4) (by kernel_rfl) h7 ?_
      refine AE_skip ?_
      refine AE_seqN ?_
      refine AW_seq ?_
      refine AW_seq ?_
      refine AW_reg ?_
      refine AR_many hT 1 [1, 4] [(1, (.ptr 0 0)), (4, (.int .i64 0))] [.cells [(.int .i64 v1), (.sl (l76 v2)), (.sl (l34 v3))]] (by kernel_rfl) ?_
      refine AR_fin (by kernel_rfl) ?_
      refine AE_seqN ?_
      refine AW_block ?_
      refine AW_keep [1, 4] (env' := [(1, (.ptr 0 0)), (4, (.int .i64 0))]) (by kernel_rfl) ?_
      refine AW_loop (fun n env L => n ≤ k5 ∧ ∃ (v5 : Int), env = [(1, (.ptr 0 0)), (4, (.int .i64 v5))] ∧ L = [.cells [(.int .i64 v1), (.sl (l76 v2)), (.sl (l34 v3))]] ∧ F13_l1 n v2 v3 v5 = some (r1, r2)) k5 ⟨Nat.le_refl _, 0, rfl, rfl, h⟩ ?_
      rintro n _ _ ⟨hn, v5, rfl, rfl, h⟩
      cases n with
      | zero => rw [F13_l1] at h; cases h
      | succ k8 =>
        rw [F13_l1] at h
        refine AW_seq ?_
        refine AW_seq ?_
        refine AW_reg ?_
        refine AR_many hT 5 [1, 4, 41] [(1, (.ptr 0 0)), (4, (.int .i64 v5)), (41, (.bool (decide (v5 < ((l76 v2).length : Int)))))] [.cells [(.int .i64 v1), (.sl (l76 v2)), (.sl (l34 v3))]] (by kernel_rfl) ?_
        refine AR_fin (by kernel_rfl) ?_
        refine AE_seqN ?_
        rcases Bool.eq_false_or_eq_true (decide (v5 < ((l76 v2).length : Int))) with h10 | h10
        · replace h := bifT h10 h
          refine AW_ifT (q := (decide (v5 < ((l76 v2).length : Int)))) (by kernel_rfl) h10 ?_
          refine AE_skip ?_
          refine AE_seqN ?_
          refine AW_seq ?_
          refine AW_block ?_
          refine AW_seq ?_
          obtain ⟨⟨v6, v7, v8, v9⟩, h11, h⟩ := Option.bind_eq_some_iff.mp h
          try dsimp only at h
          refine AW_reg ?_
          refine AR_many hT 3 [1, 4, 45, 46] [(1, (.ptr 0 0)), (4, (.int .i64 v5)), (45, (.sl (l76 v2))), (46, (.int .i64 v5))] [.cells [(.int .i64 v1), (.sl (l76 v2)), (.sl (l34 v3))]] (by kernel_rfl) ?_
          refine AR_op (by kernel_rfl) (OpJ_indexK hT (xs := l76 v2) (j := v5) (n := 4) (by kernel_rfl) (i76 h11) (by kernel_rfl)) ?_
          refine AR_many hT 3 [1, 4, 5] [(1, (.ptr 0 0)), (4, (.int .i64 v5)), (5, (.ptr 1 0))] [.cells [(.int .i64 v1), (.sl (l76 v2)), (.sl (l34 v3))], .cells [(.int .i64 v6), (.str v7), (.int .i64 v8), (.int .i64 v9)]] (by kernel_rfl) ?_
          refine AR_fin (by kernel_rfl) ?_
          refine AE_seqN ?_
          refine AW_join (fun env L => ∃ (v10 : Int) (v11 : Bool) (v12 : Int) (v13 : ByteArray) (v14 : Int) (v15 : Int), env = [(1, (.ptr 0 0)), (4, (.int .i64 v10)), (82, (.bool v11))] ∧ L = [.cells [(.int .i64 v1), (.sl (l76 v2)), (.sl (l34 v3))], .cells [(.int .i64 v12), (.str v13), (.int .i64 v14), (.int .i64 v15)]] ∧ ∃ n, n ≤ k8 ∧ F13_j2 n v2 v3 v10 v11 = some (r1, r2)) ?_ ?_
          · rcases Bool.eq_false_or_eq_true (decide (v6 < 1)) with h12 | h12
            · replace h := bifT h12 h
              refine AW_reg ?_
              refine AR_many hT 3 [1, 4, 5, 51] [(1, (.ptr 0 0)), (4, (.int .i64 v5)), (5, (.ptr 1 0)), (51, (.bool (decide (v6 < 1))))] [.cells [(.int .i64 v1), (.sl (l76 v2)), (.sl (l34 v3))], .cells [(.int .i64 v6), (.str v7), (.int .i64 v8), (.int .i64 v9)]] (by kernel_rfl) ?_
              refine AR_op (by kernel_rfl) (OpJ_boolK hT (q := (decide (v6 < 1))) (by kernel_rfl) h12) ?_
              refine AR_many hT 30 [1, 4, 82] [(1, (.ptr 0 0)), (4, (.int .i64 v5)), (82, (.bool true))] [.cells [(.int .i64 v1), (.sl (l76 v2)), (.sl (l34 v3))], .cells [(.int .i64 v6), (.str v7), (.int .i64 v8), (.int .i64 v9)]] (by kernel_rfl) ?_
              refine AR_fin (by kernel_rfl) ?_
              refine AE_keep [1, 4, 82] (env' := [(1, (.ptr 0 0)), (4, (.int .i64 v5)), (82, (.bool true))]) (by kernel_rfl) ?_
              exact AE_done ⟨v5, true, v6, v7, v8, v9, rfl, rfl, k8, Nat.le_refl _, h⟩
            · replace h := bifF h12 h
              rcases Bool.eq_false_or_eq_true (decide (v6 > 4)) with h13 | h13
              · replace h := bifT h13 h
                refine AW_reg ?_
                refine AR_many hT 3 [1, 4, 5, 51] [(1, (.ptr 0 0)), (4, (.int .i64 v5)), (5, (.ptr 1 0)), (51, (.bool (decide (v6 < 1))))] [.cells [(.int .i64 v1), (.sl (l76 v2)), (.sl (l34 v3))], .cells [(.int .i64 v6), (.str v7), (.int .i64 v8), (.int .i64 v9)]] (by kernel_rfl) ?_
                refine AR_op (by kernel_rfl) (OpJ_boolK hT (q := (decide (v6 < 1))) (by kernel_rfl) h12) ?_
                refine AR_many hT 4 [1, 4, 5, 56] [(1, (.ptr 0 0)), (4, (.int .i64 v5)), (5, (.ptr 1 0)), (56, (.bool (decide (v6 > 4))))] [.cells [(.int .i64 v1), (.sl (l76 v2)), (.sl (l34 v3))], .cells [(.int .i64 v6), (.str v7), (.int .i64 v8), (.int .i64 v9)]] (by kernel_rfl) ?_
                refine AR_op (by kernel_rfl) (OpJ_boolK hT (q := (decide (v6 > 4))) (by kernel_rfl) h13) ?_
                refine AR_many hT 25 [1, 4, 82] [(1, (.ptr 0 0)), (4, (.int .i64 v5)), (82, (.bool true))] [.cells [(.int .i64 v1), (.sl (l76 v2)), (.sl (l34 v3))], .cells [(.int .i64 v6), (.str v7), (.int .i64 v8), (.int .i64 v9)]] (by kernel_rfl) ?_
                refine AR_fin (by kernel_rfl) ?_
                refine AE_keep [1, 4, 82] (env' := [(1, (.ptr 0 0)), (4, (.int .i64 v5)), (82, (.bool true))]) (by kernel_rfl) ?_
                exact AE_done ⟨v5, true, v6, v7, v8, v9, rfl, rfl, k8, Nat.le_refl _, h⟩
              · replace h := bifF h13 h
                obtain ⟨v16, h14, h⟩ := Option.bind_eq_some_iff.mp h
                try dsimp only at h
                rcases Bool.eq_false_or_eq_true (!v16) with h15 | h15
                · replace h := bifT h15 h
                  refine AW_reg ?_
                  refine AR_many hT 3 [1, 4, 5, 51] [(1, (.ptr 0 0)), (4, (.int .i64 v5)), (5, (.ptr 1 0)), (51, (.bool (decide (v6 < 1))))] [.cells [(.int .i64 v1), (.sl (l76 v2)), (.sl (l34 v3))], .cells [(.int .i64 v6), (.str v7), (.int .i64 v8), (.int .i64 v9)]] (by kernel_rfl) ?_
                  refine AR_op (by kernel_rfl) (OpJ_boolK hT (q := (decide (v6 < 1))) (by kernel_rfl) h12) ?_
                  refine AR_many hT 4 [1, 4, 5, 56] [(1, (.ptr 0 0)), (4, (.int .i64 v5)), (5, (.ptr 1 0)), (56, (.bool (decide (v6 > 4))))] [.cells [(.int .i64 v1), (.sl (l76 v2)), (.sl (l34 v3))], .cells [(.int .i64 v6), (.str v7), (.int .i64 v8), (.int .i64 v9)]] (by kernel_rfl) ?_
                  refine AR_op (by kernel_rfl) (OpJ_boolK hT (q := (decide (v6 > 4))) (by kernel_rfl) h13) ?_
                  refine AR_many hT 2 [1, 4, 5, 57, 59] [(1, (.ptr 0 0)), (4, (.int .i64 v5)), (5, (.ptr 1 0)), (57, (.bool false)), (59, (.str v7))] [.cells [(.int .i64 v1), (.sl (l76 v2)), (.sl (l34 v3))], .cells [(.int .i64 v6), (.str v7), (.int .i64 v8), (.int .i64 v9)]] (by kernel_rfl) ?_
                  refine AR_op (by kernel_rfl) (OpJ_callK (g := 38) (args := [(.str v7)]) (by kernel_rfl) Go.Proofs.Try.func38 (by kernel_rfl) (by kernel_rfl) (Fn_pure (F38_ok k8 v7 v16 h14) (by simp [AV.low, AV.lows, AObj.low]) (by simp [AV.low, AV.lows, AObj.low]))) ?_
                  refine AR_many hT 2 [1, 4, 5, 62] [(1, (.ptr 0 0)), (4, (.int .i64 v5)), (5, (.ptr 1 0)), (62, (.bool (!v16)))] [.cells [(.int .i64 v1), (.sl (l76 v2)), (.sl (l34 v3))], .cells [(.int .i64 v6), (.str v7), (.int .i64 v8), (.int .i64 v9)]] (by kernel_rfl) ?_
                  refine AR_op (by kernel_rfl) (OpJ_boolK hT (q := (!v16)) (by kernel_rfl) h15) ?_
                  refine AR_many hT 19 [1, 4, 82] [(1, (.ptr 0 0)), (4, (.int .i64 v5)), (82, (.bool true))] [.cells [(.int .i64 v1), (.sl (l76 v2)), (.sl (l34 v3))], .cells [(.int .i64 v6), (.str v7), (.int .i64 v8), (.int .i64 v9)]] (by kernel_rfl) ?_
                  refine AR_fin (by kernel_rfl) ?_
                  refine AE_keep [1, 4, 82] (env' := [(1, (.ptr 0 0)), (4, (.int .i64 v5)), (82, (.bool true))]) (by kernel_rfl) ?_
                  exact AE_done ⟨v5, true, v6, v7, v8, v9, rfl, rfl, k8, Nat.le_refl _, h⟩
                · replace h := bifF h15 h
                  rcases Bool.eq_false_or_eq_true (decide (v8 < 0)) with h16 | h16
                  · replace h := bifT h16 h
                    refine AW_reg ?_
                    refine AR_many hT 3 [1, 4, 5, 51] [(1, (.ptr 0 0)), (4, (.int .i64 v5)), (5, (.ptr 1 0)), (51, (.bool (decide (v6 < 1))))] [.cells [(.int .i64 v1), (.sl (l76 v2)), (.sl (l34 v3))], .cells [(.int .i64 v6), (.str v7), (.int .i64 v8), (.int .i64 v9)]] (by kernel_rfl) ?_
                    refine AR_op (by kernel_rfl) (OpJ_boolK hT (q := (decide (v6 < 1))) (by kernel_rfl) h12) ?_
                    refine AR_many hT 4 [1, 4, 5, 56] [(1, (.ptr 0 0)), (4, (.int .i64 v5)), (5, (.ptr 1 0)), (56, (.bool (decide (v6 > 4))))] [.cells [(.int .i64 v1), (.sl (l76 v2)), (.sl (l34 v3))], .cells [(.int .i64 v6), (.str v7), (.int .i64 v8), (.int .i64 v9)]] (by kernel_rfl) ?_
                    refine AR_op (by kernel_rfl) (OpJ_boolK hT (q := (decide (v6 > 4))) (by kernel_rfl) h13) ?_
                    refine AR_many hT 2 [1, 4, 5, 57, 59] [(1, (.ptr 0 0)), (4, (.int .i64 v5)), (5, (.ptr 1 0)), (57, (.bool false)), (59, (.str v7))] [.cells [(.int .i64 v1), (.sl (l76 v2)), (.sl (l34 v3))], .cells [(.int .i64 v6), (.str v7), (.int .i64 v8), (.int .i64 v9)]] (by kernel_rfl) ?_
                    refine AR_op (by kernel_rfl) (OpJ_callK (g := 38) (args := [(.str v7)]) (by kernel_rfl) Go.Proofs.Try.func38 (by kernel_rfl) (by kernel_rfl) (Fn_pure (F38_ok k8 v7 v16 h14) (by simp [AV.low, AV.lows, AObj.low]) (by simp [AV.low, AV.lows, AObj.low]))) ?_
                    refine AR_many hT 2 [1, 4, 5, 62] [(1, (.ptr 0 0)), (4, (.int .i64 v5)), (5, (.ptr 1 0)), (62, (.bool (!v16)))] [.cells [(.int .i64 v1), (.sl (l76 v2)), (.sl (l34 v3))], .cells [(.int .i64 v6), (.str v7), (.int .i64 v8), (.int .i64 v9)]] (by kernel_rfl) ?_
                    refine AR_op (by kernel_rfl) (OpJ_boolK hT (q := (!v16)) (by kernel_rfl) h15) ?_
                    refine AR_many hT 4 [1, 4, 5, 67] [(1, (.ptr 0 0)), (4, (.int .i64 v5)), (5, (.ptr 1 0)), (67, (.bool (decide (v8 < 0))))] [.cells [(.int .i64 v1), (.sl (l76 v2)), (.sl (l34 v3))], .cells [(.int .i64 v6), (.str v7), (.int .i64 v8), (.int .i64 v9)]] (by kernel_rfl) ?_
                    refine AR_op (by kernel_rfl) (OpJ_boolK hT (q := (decide (v8 < 0))) (by kernel_rfl) h16) ?_
                    refine AR_many hT 14 [1, 4, 82] [(1, (.ptr 0 0)), (4, (.int .i64 v5)), (82, (.bool true))] [.cells [(.int .i64 v1), (.sl (l76 v2)), (.sl (l34 v3))], .cells [(.int .i64 v6), (.str v7), (.int .i64 v8), (.int .i64 v9)]] (by kernel_rfl) ?_
                    refine AR_fin (by kernel_rfl) ?_
                    refine AE_keep [1, 4, 82] (env' := [(1, (.ptr 0 0)), (4, (.int .i64 v5)), (82, (.bool true))]) (by kernel_rfl) ?_
                    exact AE_done ⟨v5, true, v6, v7, v8, v9, rfl, rfl, k8, Nat.le_refl _, h⟩
                  · replace h := bifF h16 h
                    rcases Bool.eq_false_or_eq_true (decide (v8 > 65535)) with h17 | h17
                    · replace h := bifT h17 h
                      refine AW_reg ?_
                      refine AR_many hT 3 [1, 4, 5, 51] [(1, (.ptr 0 0)), (4, (.int .i64 v5)), (5, (.ptr 1 0)), (51, (.bool (decide (v6 < 1))))] [.cells [(.int .i64 v1), (.sl (l76 v2)), (.sl (l34 v3))], .cells [(.int .i64 v6), (.str v7), (.int .i64 v8), (.int .i64 v9)]] (by kernel_rfl) ?_
                      refine AR_op (by kernel_rfl) (OpJ_boolK hT (q := (decide (v6 < 1))) (by kernel_rfl) h12) ?_
                      refine AR_many hT 4 [1, 4, 5, 56] [(1, (.ptr 0 0)), (4, (.int .i64 v5)), (5, (.ptr 1 0)), (56, (.bool (decide (v6 > 4))))] [.cells [(.int .i64 v1), (.sl (l76 v2)), (.sl (l34 v3))], .cells [(.int .i64 v6), (.str v7), (.int .i64 v8), (.int .i64 v9)]] (by kernel_rfl) ?_
                      refine AR_op (by kernel_rfl) (OpJ_boolK hT (q := (decide (v6 > 4))) (by kernel_rfl) h13) ?_
                      refine AR_many hT 2 [1, 4, 5, 57, 59] [(1, (.ptr 0 0)), (4, (.int .i64 v5)), (5, (.ptr 1 0)), (57, (.bool false)), (59, (.str v7))] [.cells [(.int .i64 v1), (.sl (l76 v2)), (.sl (l34 v3))], .cells [(.int .i64 v6), (.str v7), (.int .i64 v8), (.int .i64 v9)]] (by kernel_rfl) ?_
                      refine AR_op (by kernel_rfl) (OpJ_callK (g := 38) (args := [(.str v7)]) (by kernel_rfl) Go.Proofs.Try.func38 (by kernel_rfl) (by kernel_rfl) (Fn_pure (F38_ok k8 v7 v16 h14) (by simp [AV.low, AV.lows, AObj.low]) (by simp [AV.low, AV.lows, AObj.low]))) ?_
                      refine AR_many hT 2 [1, 4, 5, 62] [(1, (.ptr 0 0)), (4, (.int .i64 v5)), (5, (.ptr 1 0)), (62, (.bool (!v16)))] [.cells [(.int .i64 v1), (.sl (l76 v2)), (.sl (l34 v3))], .cells [(.int .i64 v6), (.str v7), (.int .i64 v8), (.int .i64 v9)]] (by kernel_rfl) ?_
                      refine AR_op (by kernel_rfl) (OpJ_boolK hT (q := (!v16)) (by kernel_rfl) h15) ?_
                      refine AR_many hT 4 [1, 4, 5, 67] [(1, (.ptr 0 0)), (4, (.int .i64 v5)), (5, (.ptr 1 0)), (67, (.bool (decide (v8 < 0))))] [.cells [(.int .i64 v1), (.sl (l76 v2)), (.sl (l34 v3))], .cells [(.int .i64 v6), (.str v7), (.int .i64 v8), (.int .i64 v9)]] (by kernel_rfl) ?_
                      refine AR_op (by kernel_rfl) (OpJ_boolK hT (q := (decide (v8 < 0))) (by kernel_rfl) h16) ?_
                      refine AR_many hT 4 [1, 4, 5, 72] [(1, (.ptr 0 0)), (4, (.int .i64 v5)), (5, (.ptr 1 0)), (72, (.bool (decide (v8 > 65535))))] [.cells [(.int .i64 v1), (.sl (l76 v2)), (.sl (l34 v3))], .cells [(.int .i64 v6), (.str v7), (.int .i64 v8), (.int .i64 v9)]] (by kernel_rfl) ?_
                      refine AR_op (by kernel_rfl) (OpJ_boolK hT (q := (decide (v8 > 65535))) (by kernel_rfl) h17) ?_
                      refine AR_many hT 9 [1, 4, 82] [(1, (.ptr 0 0)), (4, (.int .i64 v5)), (82, (.bool true))] [.cells [(.int .i64 v1), (.sl (l76 v2)), (.sl (l34 v3))], .cells [(.int .i64 v6), (.str v7), (.int .i64 v8), (.int .i64 v9)]] (by kernel_rfl) ?_
                      refine AR_fin (by kernel_rfl) ?_
                      refine AE_keep [1, 4, 82] (env' := [(1, (.ptr 0 0)), (4, (.int .i64 v5)), (82, (.bool true))]) (by kernel_rfl) ?_
                      exact AE_done ⟨v5, true, v6, v7, v8, v9, rfl, rfl, k8, Nat.le_refl _, h⟩
                    · replace h := bifF h17 h
                      rcases Bool.eq_false_or_eq_true (v6 == 3) with h18 | h18
                      · replace h := bifT h18 h
                        refine AW_reg ?_
                        refine AR_many hT 3 [1, 4, 5, 51] [(1, (.ptr 0 0)), (4, (.int .i64 v5)), (5, (.ptr 1 0)), (51, (.bool (decide (v6 < 1))))] [.cells [(.int .i64 v1), (.sl (l76 v2)), (.sl (l34 v3))], .cells [(.int .i64 v6), (.str v7), (.int .i64 v8), (.int .i64 v9)]] (by kernel_rfl) ?_
                        refine AR_op (by kernel_rfl) (OpJ_boolK hT (q := (decide (v6 < 1))) (by kernel_rfl) h12) ?_
                        refine AR_many hT 4 [1, 4, 5, 56] [(1, (.ptr 0 0)), (4, (.int .i64 v5)), (5, (.ptr 1 0)), (56, (.bool (decide (v6 > 4))))] [.cells [(.int .i64 v1), (.sl (l76 v2)), (.sl (l34 v3))], .cells [(.int .i64 v6), (.str v7), (.int .i64 v8), (.int .i64 v9)]] (by kernel_rfl) ?_
                        refine AR_op (by kernel_rfl) (OpJ_boolK hT (q := (decide (v6 > 4))) (by kernel_rfl) h13) ?_
                        refine AR_many hT 2 [1, 4, 5, 57, 59] [(1, (.ptr 0 0)), (4, (.int .i64 v5)), (5, (.ptr 1 0)), (57, (.bool false)), (59, (.str v7))] [.cells [(.int .i64 v1), (.sl (l76 v2)), (.sl (l34 v3))], .cells [(.int .i64 v6), (.str v7), (.int .i64 v8), (.int .i64 v9)]] (by kernel_rfl) ?_
                        refine AR_op (by kernel_rfl) (OpJ_callK (g := 38) (args := [(.str v7)]) (by kernel_rfl) Go.Proofs.Try.func38 (by kernel_rfl) (by kernel_rfl) (Fn_pure (F38_ok k8 v7 v16 h14) (by simp [AV.low, AV.lows, AObj.low]) (by simp [AV.low, AV.lows, AObj.low]))) ?_
                        refine AR_many hT 2 [1, 4, 5, 62] [(1, (.ptr 0 0)), (4, (.int .i64 v5)), (5, (.ptr 1 0)), (62, (.bool (!v16)))] [.cells [(.int .i64 v1), (.sl (l76 v2)), (.sl (l34 v3))], .cells [(.int .i64 v6), (.str v7), (.int .i64 v8), (.int .i64 v9)]] (by kernel_rfl) ?_
                        refine AR_op (by kernel_rfl) (OpJ_boolK hT (q := (!v16)) (by kernel_rfl) h15) ?_
                        refine AR_many hT 4 [1, 4, 5, 67] [(1, (.ptr 0 0)), (4, (.int .i64 v5)), (5, (.ptr 1 0)), (67, (.bool (decide (v8 < 0))))] [.cells [(.int .i64 v1), (.sl (l76 v2)), (.sl (l34 v3))], .cells [(.int .i64 v6), (.str v7), (.int .i64 v8), (.int .i64 v9)]] (by kernel_rfl) ?_
                        refine AR_op (by kernel_rfl) (OpJ_boolK hT (q := (decide (v8 < 0))) (by kernel_rfl) h16) ?_
                        refine AR_many hT 4 [1, 4, 5, 72] [(1, (.ptr 0 0)), (4, (.int .i64 v5)), (5, (.ptr 1 0)), (72, (.bool (decide (v8 > 65535))))] [.cells [(.int .i64 v1), (.sl (l76 v2)), (.sl (l34 v3))], .cells [(.int .i64 v6), (.str v7), (.int .i64 v8), (.int .i64 v9)]] (by kernel_rfl) ?_
                        refine AR_op (by kernel_rfl) (OpJ_boolK hT (q := (decide (v8 > 65535))) (by kernel_rfl) h17) ?_
                        refine AR_many hT 3 [1, 4, 5, 73, 76] [(1, (.ptr 0 0)), (4, (.int .i64 v5)), (5, (.ptr 1 0)), (73, (.bool false)), (76, (.bool (v6 == 3)))] [.cells [(.int .i64 v1), (.sl (l76 v2)), (.sl (l34 v3))], .cells [(.int .i64 v6), (.str v7), (.int .i64 v8), (.int .i64 v9)]] (by kernel_rfl) ?_
                        refine AR_op (by kernel_rfl) (OpJ_boolK hT (q := (v6 == 3)) (by kernel_rfl) h18) ?_
                        refine AR_many hT 5 [1, 4, 82] [(1, (.ptr 0 0)), (4, (.int .i64 v5)), (82, (.bool (v8 != 0)))] [.cells [(.int .i64 v1), (.sl (l76 v2)), (.sl (l34 v3))], .cells [(.int .i64 v6), (.str v7), (.int .i64 v8), (.int .i64 v9)]] (by kernel_rfl) ?_
                        refine AR_fin (by kernel_rfl) ?_
                        refine AE_keep [1, 4, 82] (env' := [(1, (.ptr 0 0)), (4, (.int .i64 v5)), (82, (.bool (v8 != 0)))]) (by kernel_rfl) ?_
                        exact AE_done ⟨v5, (v8 != 0), v6, v7, v8, v9, rfl, rfl, k8, Nat.le_refl _, h⟩
                      · replace h := bifF h18 h
                        refine AW_reg ?_
                        refine AR_many hT 3 [1, 4, 5, 51] [(1, (.ptr 0 0)), (4, (.int .i64 v5)), (5, (.ptr 1 0)), (51, (.bool (decide (v6 < 1))))] [.cells [(.int .i64 v1), (.sl (l76 v2)), (.sl (l34 v3))], .cells [(.int .i64 v6), (.str v7), (.int .i64 v8), (.int .i64 v9)]] (by kernel_rfl) ?_
                        refine AR_op (by kernel_rfl) (OpJ_boolK hT (q := (decide (v6 < 1))) (by kernel_rfl) h12) ?_
                        refine AR_many hT 4 [1, 4, 5, 56] [(1, (.ptr 0 0)), (4, (.int .i64 v5)), (5, (.ptr 1 0)), (56, (.bool (decide (v6 > 4))))] [.cells [(.int .i64 v1), (.sl (l76 v2)), (.sl (l34 v3))], .cells [(.int .i64 v6), (.str v7), (.int .i64 v8), (.int .i64 v9)]] (by kernel_rfl) ?_
                        refine AR_op (by kernel_rfl) (OpJ_boolK hT (q := (decide (v6 > 4))) (by kernel_rfl) h13) ?_
                        refine AR_many hT 2 [1, 4, 5, 57, 59] [(1, (.ptr 0 0)), (4, (.int .i64 v5)), (5, (.ptr 1 0)), (57, (.bool false)), (59, (.str v7))] [.cells [(.int .i64 v1), (.sl (l76 v2)), (.sl (l34 v3))], .cells [(.int .i64 v6), (.str v7), (.int .i64 v8), (.int .i64 v9)]] (by kernel_rfl) ?_
                        refine AR_op (by kernel_rfl) (OpJ_callK (g := 38) (args := [(.str v7)]) (by kernel_rfl) Go.Proofs.Try.func38 (by kernel_rfl) (by kernel_rfl) (Fn_pure (F38_ok k8 v7 v16 h14) (by simp [AV.low, AV.lows, AObj.low]) (by simp [AV.low, AV.lows, AObj.low]))) ?_
                        refine AR_many hT 2 [1, 4, 5, 62] [(1, (.ptr 0 0)), (4, (.int .i64 v5)), (5, (.ptr 1 0)), (62, (.bool (!v16)))] [.cells [(.int .i64 v1), (.sl (l76 v2)), (.sl (l34 v3))], .cells [(.int .i64 v6), (.str v7), (.int .i64 v8), (.int .i64 v9)]] (by kernel_rfl) ?_
                        refine AR_op (by kernel_rfl) (OpJ_boolK hT (q := (!v16)) (by kernel_rfl) h15) ?_
                        refine AR_many hT 4 [1, 4, 5, 67] [(1, (.ptr 0 0)), (4, (.int .i64 v5)), (5, (.ptr 1 0)), (67, (.bool (decide (v8 < 0))))] [.cells [(.int .i64 v1), (.sl (l76 v2)), (.sl (l34 v3))], .cells [(.int .i64 v6), (.str v7), (.int .i64 v8), (.int .i64 v9)]] (by kernel_rfl) ?_
                        refine AR_op (by kernel_rfl) (OpJ_boolK hT (q := (decide (v8 < 0))) (by kernel_rfl) h16) ?_
                        refine AR_many hT 4 [1, 4, 5, 72] [(1, (.ptr 0 0)), (4, (.int .i64 v5)), (5, (.ptr 1 0)), (72, (.bool (decide (v8 > 65535))))] [.cells [(.int .i64 v1), (.sl (l76 v2)), (.sl (l34 v3))], .cells [(.int .i64 v6), (.str v7), (.int .i64 v8), (.int .i64 v9)]] (by kernel_rfl) ?_
                        refine AR_op (by kernel_rfl) (OpJ_boolK hT (q := (decide (v8 > 65535))) (by kernel_rfl) h17) ?_
                        refine AR_many hT 3 [1, 4, 5, 73, 76] [(1, (.ptr 0 0)), (4, (.int .i64 v5)), (5, (.ptr 1 0)), (73, (.bool false)), (76, (.bool (v6 == 3)))] [.cells [(.int .i64 v1), (.sl (l76 v2)), (.sl (l34 v3))], .cells [(.int .i64 v6), (.str v7), (.int .i64 v8), (.int .i64 v9)]] (by kernel_rfl) ?_
                        refine AR_op (by kernel_rfl) (OpJ_boolK hT (q := (v6 == 3)) (by kernel_rfl) h18) ?_
                        refine AR_many hT 5 [1, 4, 82] [(1, (.ptr 0 0)), (4, (.int .i64 v5)), (82, (.bool false))] [.cells [(.int .i64 v1), (.sl (l76 v2)), (.sl (l34 v3))], .cells [(.int .i64 v6), (.str v7), (.int .i64 v8), (.int .i64 v9)]] (by kernel_rfl) ?_
                        refine AR_fin (by kernel_rfl) ?_
                        refine AE_keep [1, 4, 82] (env' := [(1, (.ptr 0 0)), (4, (.int .i64 v5)), (82, (.bool false))]) (by kernel_rfl) ?_
                        exact AE_done ⟨v5, false, v6, v7, v8, v9, rfl, rfl, k8, Nat.le_refl _, h⟩
          · rintro _ _ ⟨v10, v11, v12, v13, v14, v15, rfl, rfl, n, hn, h⟩
            obtain _ | k19 := n
            · rw [F13_j2] at h; cases h
            rw [F13_j2] at h
            rcases Bool.eq_false_or_eq_true v11 with h21 | h21
            · replace h := bifT h21 h
              refine AW_ifT (q := v11) (by kernel_rfl) h21 ?_
              refine AW_seq ?_
              refine AW_reg ?_
              refine AR_many hT 2 [2, 3] [(2, (.int .i64 (-1))), (3, (.int .i64 0))] [.cells [(.int .i64 v1), (.sl (l76 v2)), (.sl (l34 v3))], .cells [(.int .i64 v12), (.str v13), (.int .i64 v14), (.int .i64 v15)]] (by kernel_rfl) ?_
              refine AR_fin (by kernel_rfl) ?_
              refine AE_seqN ?_
              refine AE_ret ?_
              refine AE_blkR ?_
              refine AE_seqR ?_
              refine AE_seqR ?_
              refine AE_blkR ?_
              refine AE_seqR ?_
              refine AE_keep [2, 3] (env' := [(2, (.int .i64 (-1))), (3, (.int .i64 0))]) (by kernel_rfl) ?_
              simp only [Option.some.injEq, Prod.mk.injEq] at h
              obtain ⟨rfl, rfl⟩ := h
              exact AE_done ⟨trivial, by kernel_rfl, by kernel_rfl, by simp [AV.low, AV.lows, AObj.low], by simp [AV.low, AV.lows, AObj.low]⟩
            · replace h := bifF h21 h
              refine AW_ifF (q := v11) (by kernel_rfl) h21 ?_
              refine AE_skip ?_
              refine AE_blkN ?_
              refine AE_seqN ?_
              refine AW_reg ?_
              refine AR_many hT 3 [1, 4] [(1, (.ptr 0 0)), (4, (.int .i64 (IntKind.wrap .i64 (v10 + 1))))] [.cells [(.int .i64 v1), (.sl (l76 v2)), (.sl (l34 v3))], .cells [(.int .i64 v12), (.str v13), (.int .i64 v14), (.int .i64 v15)]] (by kernel_rfl) ?_
              refine AR_fin (by kernel_rfl) ?_
              refine AE_keep [1, 4] (env' := [(1, (.ptr 0 0)), (4, (.int .i64 (IntKind.wrap .i64 (v10 + 1))))]) (by kernel_rfl) ?_
              refine AE_drop 1 (by kernel_rfl) (low_env (by simp [AV.low, AV.lows, AObj.low])) (by simp [AV.low, AV.lows, AObj.low]) (L' := [.cells [(.int .i64 v1), (.sl (l76 v2)), (.sl (l34 v3))]]) (by kernel_rfl) ?_
              exact AE_done ⟨k19, by omega, by omega, (IntKind.wrap .i64 (v10 + 1)), rfl, rfl, h⟩
        · replace h := bifF h10 h
          refine AW_ifF (q := (decide (v5 < ((l76 v2).length : Int)))) (by kernel_rfl) h10 ?_
          refine AE_exit ?_
          refine AE_seqX ?_
          refine AE_seqX ?_
          refine AE_blkH ?_
          refine AE_seqN ?_
          refine AW_seq ?_
          refine AW_reg ?_
          refine AR_many hT 2 [1, 6, 7] [(1, (.ptr 0 0)), (6, (.int .i64 0)), (7, (.int .i64 0))] [.cells [(.int .i64 v1), (.sl (l76 v2)), (.sl (l34 v3))]] (by kernel_rfl) ?_
          refine AR_fin (by kernel_rfl) ?_
          refine AE_seqN ?_
          refine AW_seq ?_
          refine AW_seq ?_
          refine AW_reg ?_
          refine AR_many hT 1 [1, 6, 7, 8] [(1, (.ptr 0 0)), (6, (.int .i64 0)), (7, (.int .i64 0)), (8, (.int .i64 0))] [.cells [(.int .i64 v1), (.sl (l76 v2)), (.sl (l34 v3))]] (by kernel_rfl) ?_
          refine AR_fin (by kernel_rfl) ?_
          refine AE_seqN ?_
          refine AW_block ?_
          refine AW_keep [1, 6, 7, 8] (env' := [(1, (.ptr 0 0)), (6, (.int .i64 0)), (7, (.int .i64 0)), (8, (.int .i64 0))]) (by kernel_rfl) ?_
          refine AW_loop (fun n env L => n ≤ k8 ∧ ∃ (v17 : Int) (v18 : Int) (v19 : Int), env = [(1, (.ptr 0 0)), (6, (.int .i64 v17)), (7, (.int .i64 v18)), (8, (.int .i64 v19))] ∧ L = [.cells [(.int .i64 v1), (.sl (l76 v2)), (.sl (l34 v3))]] ∧ F13_l3 n v3 v17 v18 v19 = some (r1, r2)) k8 ⟨Nat.le_refl _, 0, 0, 0, rfl, rfl, h⟩ ?_
          rintro n _ _ ⟨hn, v17, v18, v19, rfl, rfl, h⟩
          cases n with
          | zero => rw [F13_l3] at h; cases h
          | succ k22 =>
            rw [F13_l3] at h
            refine AW_seq ?_
            refine AW_seq ?_
            refine AW_reg ?_
            refine AR_many hT 5 [1, 6, 7, 8, 87] [(1, (.ptr 0 0)), (6, (.int .i64 v17)), (7, (.int .i64 v18)), (8, (.int .i64 v19)), (87, (.bool (decide (v19 < ((l34 v3).length : Int)))))] [.cells [(.int .i64 v1), (.sl (l76 v2)), (.sl (l34 v3))]] (by kernel_rfl) ?_
            refine AR_fin (by kernel_rfl) ?_
            refine AE_seqN ?_
            rcases Bool.eq_false_or_eq_true (decide (v19 < ((l34 v3).length : Int))) with h24 | h24
            · replace h := bifT h24 h
              refine AW_ifT (q := (decide (v19 < ((l34 v3).length : Int)))) (by kernel_rfl) h24 ?_
              refine AE_skip ?_
              refine AE_seqN ?_
              refine AW_seq ?_
              refine AW_block ?_
              refine AW_seq ?_
              obtain ⟨⟨v20, v21, v22⟩, h25, h⟩ := Option.bind_eq_some_iff.mp h
              try dsimp only at h
              obtain ⟨⟨v23, v24⟩, h26, h⟩ := Option.bind_eq_some_iff.mp h
              try dsimp only at h
              refine AW_reg ?_
              refine AR_many hT 3 [1, 6, 7, 8, 92, 93] [(1, (.ptr 0 0)), (6, (.int .i64 v17)), (7, (.int .i64 v18)), (8, (.int .i64 v19)), (92, (.sl (l34 v3))), (93, (.int .i64 v19))] [.cells [(.int .i64 v1), (.sl (l76 v2)), (.sl (l34 v3))]] (by kernel_rfl) ?_
              refine AR_op (by kernel_rfl) (OpJ_indexK hT (xs := l34 v3) (j := v19) (n := 3) (by kernel_rfl) (i34 h25) (by kernel_rfl)) ?_
              refine AR_many hT 2 [1, 6, 7, 8, 96] [(1, (.ptr 0 0)), (6, (.int .i64 v17)), (7, (.int .i64 v18)), (8, (.int .i64 v19)), (96, (.sl (l69 v21)))] [.cells [(.int .i64 v1), (.sl (l76 v2)), (.sl (l34 v3))]] (by kernel_rfl) ?_
              refine AR_op (by kernel_rfl) (OpJ_callK (g := 39) (args := [(.sl (l69 v21)), (.int .i64 12)]) (by kernel_rfl) Go.Proofs.Try.func39 (by kernel_rfl) (by kernel_rfl) (Fn_pure (F39_ok k22 v21 12 v23 v24 h26) (by simp [AV.low, AV.lows, AObj.low]) (by simp [AV.low, AV.lows, AObj.low]))) ?_
              refine AR_many hT 5 [1, 6, 7, 8, 9, 10] [(1, (.ptr 0 0)), (6, (.int .i64 v17)), (7, (.int .i64 v18)), (8, (.int .i64 v19)), (9, (.int .i64 v23)), (10, (.int .i64 v24))] [.cells [(.int .i64 v1), (.sl (l76 v2)), (.sl (l34 v3))]] (by kernel_rfl) ?_
              refine AR_fin (by kernel_rfl) ?_
              refine AE_seqN ?_
              refine AW_seq ?_
              refine AW_join (fun env L => ∃ (v25 : Int) (v26 : Int) (v27 : Int) (v28 : Int) (v29 : Int) (v30 : Bool), env = [(1, (.ptr 0 0)), (6, (.int .i64 v25)), (7, (.int .i64 v26)), (8, (.int .i64 v27)), (9, (.int .i64 v28)), (10, (.int .i64 v29)), (111, (.bool v30))] ∧ L = [.cells [(.int .i64 v1), (.sl (l76 v2)), (.sl (l34 v3))]] ∧ ∃ n, n ≤ k22 ∧ F13_j4 n v3 v25 v26 v27 v28 v29 v30 = some (r1, r2)) ?_ ?_
              · rcases Bool.eq_false_or_eq_true (decide (v23 < 0)) with h27 | h27
                · replace h := bifT h27 h
                  refine AW_reg ?_
                  refine AR_many hT 2 [1, 6, 7, 8, 9, 10, 101] [(1, (.ptr 0 0)), (6, (.int .i64 v17)), (7, (.int .i64 v18)), (8, (.int .i64 v19)), (9, (.int .i64 v23)), (10, (.int .i64 v24)), (101, (.bool (decide (v23 < 0))))] [.cells [(.int .i64 v1), (.sl (l76 v2)), (.sl (l34 v3))]] (by kernel_rfl) ?_
                  refine AR_op (by kernel_rfl) (OpJ_boolK hT (q := (decide (v23 < 0))) (by kernel_rfl) h27) ?_
                  refine AR_many hT 9 [1, 6, 7, 8, 9, 10, 111] [(1, (.ptr 0 0)), (6, (.int .i64 v17)), (7, (.int .i64 v18)), (8, (.int .i64 v19)), (9, (.int .i64 v23)), (10, (.int .i64 v24)), (111, (.bool true))] [.cells [(.int .i64 v1), (.sl (l76 v2)), (.sl (l34 v3))]] (by kernel_rfl) ?_
                  refine AR_fin (by kernel_rfl) ?_
                  refine AE_keep [1, 6, 7, 8, 9, 10, 111] (env' := [(1, (.ptr 0 0)), (6, (.int .i64 v17)), (7, (.int .i64 v18)), (8, (.int .i64 v19)), (9, (.int .i64 v23)), (10, (.int .i64 v24)), (111, (.bool true))]) (by kernel_rfl) ?_
                  exact AE_done ⟨v17, v18, v19, v23, v24, true, rfl, rfl, k22, Nat.le_refl _, h⟩
                · replace h := bifF h27 h
                  obtain ⟨⟨v31, v32, v33⟩, h28, h⟩ := Option.bind_eq_some_iff.mp h
                  try dsimp only at h
                  obtain ⟨v34, h29, h⟩ := Option.bind_eq_some_iff.mp h
                  try dsimp only at h
                  refine AW_reg ?_
                  refine AR_many hT 2 [1, 6, 7, 8, 9, 10, 101] [(1, (.ptr 0 0)), (6, (.int .i64 v17)), (7, (.int .i64 v18)), (8, (.int .i64 v19)), (9, (.int .i64 v23)), (10, (.int .i64 v24)), (101, (.bool (decide (v23 < 0))))] [.cells [(.int .i64 v1), (.sl (l76 v2)), (.sl (l34 v3))]] (by kernel_rfl) ?_
                  refine AR_op (by kernel_rfl) (OpJ_boolK hT (q := (decide (v23 < 0))) (by kernel_rfl) h27) ?_
                  refine AR_many hT 3 [1, 6, 7, 8, 9, 10, 102, 104, 105] [(1, (.ptr 0 0)), (6, (.int .i64 v17)), (7, (.int .i64 v18)), (8, (.int .i64 v19)), (9, (.int .i64 v23)), (10, (.int .i64 v24)), (102, (.bool false)), (104, (.sl (l34 v3))), (105, (.int .i64 v19))] [.cells [(.int .i64 v1), (.sl (l76 v2)), (.sl (l34 v3))]] (by kernel_rfl) ?_
                  refine AR_op (by kernel_rfl) (OpJ_indexK hT (xs := l34 v3) (j := v19) (n := 3) (by kernel_rfl) (i34 h28) (by kernel_rfl)) ?_
                  refine AR_many hT 2 [1, 6, 7, 8, 9, 10, 102, 108] [(1, (.ptr 0 0)), (6, (.int .i64 v17)), (7, (.int .i64 v18)), (8, (.int .i64 v19)), (9, (.int .i64 v23)), (10, (.int .i64 v24)), (102, (.bool false)), (108, (.str v31))] [.cells [(.int .i64 v1), (.sl (l76 v2)), (.sl (l34 v3))]] (by kernel_rfl) ?_
                  refine AR_op (by kernel_rfl) (OpJ_callK (g := 38) (args := [(.str v31)]) (by kernel_rfl) Go.Proofs.Try.func38 (by kernel_rfl) (by kernel_rfl) (Fn_pure (F38_ok k22 v31 v34 h29) (by simp [AV.low, AV.lows, AObj.low]) (by simp [AV.low, AV.lows, AObj.low]))) ?_
                  refine AR_many hT 2 [1, 6, 7, 8, 9, 10, 111] [(1, (.ptr 0 0)), (6, (.int .i64 v17)), (7, (.int .i64 v18)), (8, (.int .i64 v19)), (9, (.int .i64 v23)), (10, (.int .i64 v24)), (111, (.bool (!v34)))] [.cells [(.int .i64 v1), (.sl (l76 v2)), (.sl (l34 v3))]] (by kernel_rfl) ?_
                  refine AR_fin (by kernel_rfl) ?_
                  refine AE_keep [1, 6, 7, 8, 9, 10, 111] (env' := [(1, (.ptr 0 0)), (6, (.int .i64 v17)), (7, (.int .i64 v18)), (8, (.int .i64 v19)), (9, (.int .i64 v23)), (10, (.int .i64 v24)), (111, (.bool (!v34)))]) (by kernel_rfl) ?_
                  exact AE_done ⟨v17, v18, v19, v23, v24, (!v34), rfl, rfl, k22, Nat.le_refl _, h⟩
              · rintro _ _ ⟨v25, v26, v27, v28, v29, v30, rfl, rfl, n, hn, h⟩
                obtain _ | k30 := n
                · rw [F13_j4] at h; cases h
                rw [F13_j4] at h
                rcases Bool.eq_false_or_eq_true v30 with h32 | h32
                · replace h := bifT h32 h
                  refine AW_ifT (q := v30) (by kernel_rfl) h32 ?_
                  refine AW_seq ?_
                  refine AW_reg ?_
                  refine AR_many hT 2 [2, 3] [(2, (.int .i64 (-1))), (3, (.int .i64 0))] [.cells [(.int .i64 v1), (.sl (l76 v2)), (.sl (l34 v3))]] (by kernel_rfl) ?_
                  refine AR_fin (by kernel_rfl) ?_
                  refine AE_seqN ?_
                  refine AE_ret ?_
                  refine AE_seqR ?_
                  refine AE_blkR ?_
                  refine AE_seqR ?_
                  refine AE_seqR ?_
                  refine AE_blkR ?_
                  refine AE_seqR ?_
                  refine AE_keep [2, 3] (env' := [(2, (.int .i64 (-1))), (3, (.int .i64 0))]) (by kernel_rfl) ?_
                  simp only [Option.some.injEq, Prod.mk.injEq] at h
                  obtain ⟨rfl, rfl⟩ := h
                  exact AE_done ⟨trivial, by kernel_rfl, by kernel_rfl, by simp [AV.low, AV.lows, AObj.low], by simp [AV.low, AV.lows, AObj.low]⟩
                · replace h := bifF h32 h
                  refine AW_ifF (q := v30) (by kernel_rfl) h32 ?_
                  refine AE_skip ?_
                  refine AE_seqN ?_
                  refine AW_seq ?_
                  refine AW_reg ?_
                  refine AR_many hT 4 [1, 6, 7, 8, 10] [(1, (.ptr 0 0)), (6, (.int .i64 (IntKind.wrap .i64 (v25 + v28)))), (7, (.int .i64 v26)), (8, (.int .i64 v27)), (10, (.int .i64 v29))] [.cells [(.int .i64 v1), (.sl (l76 v2)), (.sl (l34 v3))]] (by kernel_rfl) ?_
                  refine AR_fin (by kernel_rfl) ?_
                  refine AE_seqN ?_
                  refine AW_reg ?_
                  refine AR_many hT 4 [1, 6, 7, 8] [(1, (.ptr 0 0)), (6, (.int .i64 (IntKind.wrap .i64 (v25 + v28)))), (7, (.int .i64 (IntKind.wrap .i64 (v26 + v29)))), (8, (.int .i64 v27))] [.cells [(.int .i64 v1), (.sl (l76 v2)), (.sl (l34 v3))]] (by kernel_rfl) ?_
                  refine AR_fin (by kernel_rfl) ?_
                  refine AE_blkN ?_
                  refine AE_seqN ?_
                  refine AW_reg ?_
                  refine AR_many hT 3 [1, 6, 7, 8] [(1, (.ptr 0 0)), (6, (.int .i64 (IntKind.wrap .i64 (v25 + v28)))), (7, (.int .i64 (IntKind.wrap .i64 (v26 + v29)))), (8, (.int .i64 (IntKind.wrap .i64 (v27 + 1))))] [.cells [(.int .i64 v1), (.sl (l76 v2)), (.sl (l34 v3))]] (by kernel_rfl) ?_
                  refine AR_fin (by kernel_rfl) ?_
                  refine AE_keep [1, 6, 7, 8] (env' := [(1, (.ptr 0 0)), (6, (.int .i64 (IntKind.wrap .i64 (v25 + v28)))), (7, (.int .i64 (IntKind.wrap .i64 (v26 + v29)))), (8, (.int .i64 (IntKind.wrap .i64 (v27 + 1))))]) (by kernel_rfl) ?_
                  exact AE_done ⟨k30, by omega, by omega, (IntKind.wrap .i64 (v25 + v28)), (IntKind.wrap .i64 (v26 + v29)), (IntKind.wrap .i64 (v27 + 1)), rfl, rfl, h⟩
            · replace h := bifF h24 h
              refine AW_ifF (q := (decide (v19 < ((l34 v3).length : Int)))) (by kernel_rfl) h24 ?_
              refine AE_exit ?_
              refine AE_seqX ?_
              refine AE_seqX ?_
              refine AE_blkH ?_
              refine AE_seqN ?_
              refine AW_seq ?_
              refine AW_join (fun env L => ∃ (v35 : Bool), env = [(6, (.int .i64 v17)), (7, (.int .i64 v18)), (123, (.bool v35))] ∧ L = [.cells [(.int .i64 v1), (.sl (l76 v2)), (.sl (l34 v3))]] ∧ ∃ n, n ≤ k22 ∧ F13_j5 n v17 v18 v35 = some (r1, r2)) ?_ ?_
              · rcases Bool.eq_false_or_eq_true (decide (v17 > 200)) with h33 | h33
                · replace h := bifT h33 h
                  refine AW_reg ?_
                  refine AR_many hT 2 [6, 7, 119] [(6, (.int .i64 v17)), (7, (.int .i64 v18)), (119, (.bool (decide (v17 > 200))))] [.cells [(.int .i64 v1), (.sl (l76 v2)), (.sl (l34 v3))]] (by kernel_rfl) ?_
                  refine AR_op (by kernel_rfl) (OpJ_boolK hT (q := (decide (v17 > 200))) (by kernel_rfl) h33) ?_
                  refine AR_many hT 3 [6, 7, 123] [(6, (.int .i64 v17)), (7, (.int .i64 v18)), (123, (.bool true))] [.cells [(.int .i64 v1), (.sl (l76 v2)), (.sl (l34 v3))]] (by kernel_rfl) ?_
                  refine AR_fin (by kernel_rfl) ?_
                  refine AE_keep [6, 7, 123] (env' := [(6, (.int .i64 v17)), (7, (.int .i64 v18)), (123, (.bool true))]) (by kernel_rfl) ?_
                  exact AE_done ⟨true, rfl, rfl, k22, Nat.le_refl _, h⟩
                · replace h := bifF h33 h
                  refine AW_reg ?_
                  refine AR_many hT 2 [6, 7, 119] [(6, (.int .i64 v17)), (7, (.int .i64 v18)), (119, (.bool (decide (v17 > 200))))] [.cells [(.int .i64 v1), (.sl (l76 v2)), (.sl (l34 v3))]] (by kernel_rfl) ?_
                  refine AR_op (by kernel_rfl) (OpJ_boolK hT (q := (decide (v17 > 200))) (by kernel_rfl) h33) ?_
                  refine AR_many hT 3 [6, 7, 123] [(6, (.int .i64 v17)), (7, (.int .i64 v18)), (123, (.bool (decide (v18 > 8192))))] [.cells [(.int .i64 v1), (.sl (l76 v2)), (.sl (l34 v3))]] (by kernel_rfl) ?_
                  refine AR_fin (by kernel_rfl) ?_
                  refine AE_keep [6, 7, 123] (env' := [(6, (.int .i64 v17)), (7, (.int .i64 v18)), (123, (.bool (decide (v18 > 8192))))]) (by kernel_rfl) ?_
                  exact AE_done ⟨(decide (v18 > 8192)), rfl, rfl, k22, Nat.le_refl _, h⟩
              · rintro _ _ ⟨v35, rfl, rfl, n, hn, h⟩
                obtain ⟨k34, rfl⟩ : ∃ q, q = n := ⟨n, rfl⟩
                rw [F13_j5] at h
                rcases Bool.eq_false_or_eq_true v35 with h36 | h36
                · replace h := bifT h36 h
                  refine AW_ifT (q := v35) (by kernel_rfl) h36 ?_
                  refine AW_seq ?_
                  refine AW_reg ?_
                  refine AR_many hT 2 [2, 3] [(2, (.int .i64 (-1))), (3, (.int .i64 0))] [.cells [(.int .i64 v1), (.sl (l76 v2)), (.sl (l34 v3))]] (by kernel_rfl) ?_
                  refine AR_fin (by kernel_rfl) ?_
                  refine AE_seqN ?_
                  refine AE_ret ?_
                  refine AE_seqR ?_
                  refine AE_keep [2, 3] (env' := [(2, (.int .i64 (-1))), (3, (.int .i64 0))]) (by kernel_rfl) ?_
                  simp only [Option.some.injEq, Prod.mk.injEq] at h
                  obtain ⟨rfl, rfl⟩ := h
                  exact AE_done ⟨trivial, by kernel_rfl, by kernel_rfl, by simp [AV.low, AV.lows, AObj.low], by simp [AV.low, AV.lows, AObj.low]⟩
                · replace h := bifF h36 h
                  refine AW_ifF (q := v35) (by kernel_rfl) h36 ?_
                  refine AE_skip ?_
                  refine AE_seqN ?_
                  refine AW_seq ?_
                  refine AW_reg ?_
                  refine AR_many hT 4 [2, 3] [(2, (.int .i64 v17)), (3, (.int .i64 v18))] [.cells [(.int .i64 v1), (.sl (l76 v2)), (.sl (l34 v3))]] (by kernel_rfl) ?_
                  refine AR_fin (by kernel_rfl) ?_
                  refine AE_seqN ?_
                  refine AE_ret ?_
                  refine AE_keep [2, 3] (env' := [(2, (.int .i64 v17)), (3, (.int .i64 v18))]) (by kernel_rfl) ?_
                  simp only [Option.some.injEq, Prod.mk.injEq] at h
                  obtain ⟨rfl, rfl⟩ := h
                  exact AE_done ⟨trivial, by kernel_rfl, by kernel_rfl, by simp [AV.low, AV.lows, AObj.low], by simp [AV.low, AV.lows, AObj.low]⟩

def F3 (k : Nat) (v1 : Int) (v2 : (List T76)) (v3 : (List T34)) : Option (Bool) :=
  ((F10 k v1 v2 v3).bind fun v4 =>
    (bif (!v4) then
      ((F11 k ).bind fun v5 =>
        some (v5))
    else
      ((F12 k v1 v2 v3).bind fun ⟨v6, v7⟩ =>
        ((F13 k v1 v2 v3).bind fun ⟨v8, v9⟩ =>
          (bif (decide (v8 < 0)) then
            ((F14 k v1 v2 v3).bind fun v10 =>
              (bif (v10 == 1) then
                (bif (v6 == 0) then
                  (bif (v7 == 0) then
                    ((F11 k ).bind fun v11 =>
                      some (v11))
                  else
                    some (false))
                else
                  some (false))
              else
                some (false)))
          else
            ((F14 k v1 v2 v3).bind fun v12 =>
              (bif (v12 == 0) then
                (bif (v6 == v8) then
                  (bif (v7 == v9) then
                    ((F11 k ).bind fun v13 =>
                      some (v13))
                  else
                    some (false))
                else
                  some (false))
              else
                some (false))))))))

theorem F3_ok (k : Nat) : ∀ (v1 : Int) (v2 : (List T76)) (v3 : (List T34)) (r1 : Bool), F3 k v1 v2 v3 = some (r1) → Fn prog 3 [(.agg [(.int .i64 v1), (.sl (l76 v2)), (.sl (l34 v3))])] [] (.bool r1) [] := by
  intro v1 v2 v3 r1 h
  rw [F3] at h
  refine Fn_bodyK hT Go.Proofs.Try.func3 (c := Go.Proofs.Try.f3.body.getD .skip) (by kernel_rfl) (by kernel_rfl) (by kernel_rfl) ?_
  refine AW_seq ?_
  refine AW_reg ?_
  refine AR_many hT 2 [1] [(1, (.ptr 0 0))] [.cells [(.int .i64 v1), (.sl (l76 v2)), (.sl (l34 v3))]] (by kernel_rfl) ?_
  refine AR_fin (by kernel_rfl) ?_
  refine AE_seqN ?_
  refine AW_seq ?_
  refine AW_seq ?_
  obtain ⟨v4, h1, h⟩ := Option.bind_eq_some_iff.mp h
  try dsimp only at h
  refine AW_reg ?_
  refine AR_many hT 1 [1, 7] [(1, (.ptr 0 0)), (7, (.agg [(.int .i64 v1), (.sl (l76 v2)), (.sl (l34 v3))]))] [.cells [(.int .i64 v1), (.sl (l76 v2)), (.sl (l34 v3))]] (by kernel_rfl) ?_
  refine AR_op (by kernel_rfl) (OpJ_callK (g := 10) (args := [(.agg [(.int .i64 v1), (.sl (l76 v2)), (.sl (l34 v3))])]) (by kernel_rfl) Go.Proofs.Try.func10 (by kernel_rfl) (by kernel_rfl) (Fn_pure (F10_ok k v1 v2 v3 v4 h1) (by simp [AV.low, AV.lows, AObj.low]) (by simp [AV.low, AV.lows, AObj.low]))) ?_
  refine AR_many hT 1 [1, 9] [(1, (.ptr 0 0)), (9, (.bool (!v4)))] [.cells [(.int .i64 v1), (.sl (l76 v2)), (.sl (l34 v3))]] (by kernel_rfl) ?_
  refine AR_fin (by kernel_rfl) ?_
  refine AE_seqN ?_
  rcases Bool.eq_false_or_eq_true (!v4) with h2 | h2
  · replace h := bifT h2 h
    refine AW_ifT (q := (!v4)) (by kernel_rfl) h2 ?_
    refine AW_seq ?_
    obtain ⟨v5, h3, h⟩ := Option.bind_eq_some_iff.mp h
    try dsimp only at h
    refine AW_reg ?_
    refine AR_op (by kernel_rfl) (OpJ_callK (g := 11) (args := []) (by kernel_rfl) Go.Proofs.Try.func11 (by kernel_rfl) (by kernel_rfl) (Fn_pure (F11_ok k  v5 h3) (by simp [AV.low, AV.lows, AObj.low]) (by simp [AV.low, AV.lows, AObj.low]))) ?_
    refine AR_many hT 1 [2] [(2, (.bool v5))] [.cells [(.int .i64 v1), (.sl (l76 v2)), (.sl (l34 v3))]] (by kernel_rfl) ?_
    refine AR_fin (by kernel_rfl) ?_
    refine AE_seqN ?_
    refine AE_ret ?_
    refine AE_seqR ?_
    refine AE_keep [2] (env' := [(2, (.bool v5))]) (by kernel_rfl) ?_
    simp only [Option.some.injEq] at h
    subst h
    exact AE_done ⟨trivial, by kernel_rfl, by kernel_rfl, by simp [AV.low, AV.lows, AObj.low], by simp [AV.low, AV.lows, AObj.low]⟩
  · replace h := bifF h2 h
    refine AW_ifF (q := (!v4)) (by kernel_rfl) h2 ?_
    refine AE_skip ?_
    refine AE_seqN ?_
    refine AW_seq ?_
    obtain ⟨⟨v6, v7⟩, h4, h⟩ := Option.bind_eq_some_iff.mp h
    try dsimp only at h
    refine AW_reg ?_
    refine AR_many hT 1 [1, 12] [(1, (.ptr 0 0)), (12, (.agg [(.int .i64 v1), (.sl (l76 v2)), (.sl (l34 v3))]))] [.cells [(.int .i64 v1), (.sl (l76 v2)), (.sl (l34 v3))]] (by kernel_rfl) ?_
    refine AR_op (by kernel_rfl) (OpJ_callK (g := 12) (args := [(.agg [(.int .i64 v1), (.sl (l76 v2)), (.sl (l34 v3))])]) (by kernel_rfl) Go.Proofs.Try.func12 (by kernel_rfl) (by kernel_rfl) (Fn_pure (F12_ok k v1 v2 v3 v6 v7 h4) (by simp [AV.low, AV.lows, AObj.low]) (by simp [AV.low, AV.lows, AObj.low]))) ?_
    refine AR_many hT 5 [1, 3, 4] [(1, (.ptr 0 0)), (3, (.int .i64 v6)), (4, (.int .i64 v7))] [.cells [(.int .i64 v1), (.sl (l76 v2)), (.sl (l34 v3))]] (by kernel_rfl) ?_
    refine AR_fin (by kernel_rfl) ?_
    refine AE_seqN ?_
    refine AW_seq ?_
    obtain ⟨⟨v8, v9⟩, h5, h⟩ := Option.bind_eq_some_iff.mp h
    try dsimp only at h
    refine AW_reg ?_
    refine AR_many hT 1 [1, 3, 4, 17] [(1, (.ptr 0 0)), (3, (.int .i64 v6)), (4, (.int .i64 v7)), (17, (.agg [(.int .i64 v1), (.sl (l76 v2)), (.sl (l34 v3))]))] [.cells [(.int .i64 v1), (.sl (l76 v2)), (.sl (l34 v3))]] (by kernel_rfl) ?_
    refine AR_op (by kernel_rfl) (OpJ_callK (g := 13) (args := [(.agg [(.int .i64 v1), (.sl (l76 v2)), (.sl (l34 v3))])]) (by kernel_rfl) Go.Proofs.Try.func13 (by kernel_rfl) (by kernel_rfl) (Fn_pure (F13_ok k v1 v2 v3 v8 v9 h5) (by simp [AV.low, AV.lows, AObj.low]) (by simp [AV.low, AV.lows, AObj.low]))) ?_
    refine AR_many hT 5 [1, 3, 4, 5, 6] [(1, (.ptr 0 0)), (3, (.int .i64 v6)), (4, (.int .i64 v7)), (5, (.int .i64 v8)), (6, (.int .i64 v9))] [.cells [(.int .i64 v1), (.sl (l76 v2)), (.sl (l34 v3))]] (by kernel_rfl) ?_
    refine AR_fin (by kernel_rfl) ?_
    refine AE_seqN ?_
    refine AW_seq ?_
    refine AW_seq ?_
    refine AW_reg ?_
    refine AR_many hT 2 [1, 3, 4, 5, 6, 22] [(1, (.ptr 0 0)), (3, (.int .i64 v6)), (4, (.int .i64 v7)), (5, (.int .i64 v8)), (6, (.int .i64 v9)), (22, (.bool (decide (v8 < 0))))] [.cells [(.int .i64 v1), (.sl (l76 v2)), (.sl (l34 v3))]] (by kernel_rfl) ?_
    refine AR_fin (by kernel_rfl) ?_
    refine AE_seqN ?_
    rcases Bool.eq_false_or_eq_true (decide (v8 < 0)) with h6 | h6
    · replace h := bifT h6 h
      refine AW_ifT (q := (decide (v8 < 0))) (by kernel_rfl) h6 ?_
      refine AW_seq ?_
      obtain ⟨v10, h7, h⟩ := Option.bind_eq_some_iff.mp h
      try dsimp only at h
      rcases Bool.eq_false_or_eq_true (v10 == 1) with h8 | h8
      · replace h := bifT h8 h
        rcases Bool.eq_false_or_eq_true (v6 == 0) with h9 | h9
        · replace h := bifT h9 h
          rcases Bool.eq_false_or_eq_true (v7 == 0) with h10 | h10
          · replace h := bifT h10 h
            obtain ⟨v11, h11, h⟩ := Option.bind_eq_some_iff.mp h
            try dsimp only at h
            refine AW_reg ?_
            refine AR_many hT 1 [3, 4, 23] [(3, (.int .i64 v6)), (4, (.int .i64 v7)), (23, (.agg [(.int .i64 v1), (.sl (l76 v2)), (.sl (l34 v3))]))] [.cells [(.int .i64 v1), (.sl (l76 v2)), (.sl (l34 v3))]] (by kernel_rfl) ?_
            refine AR_op (by kernel_rfl) (OpJ_callK (g := 14) (args := [(.agg [(.int .i64 v1), (.sl (l76 v2)), (.sl (l34 v3))])]) (by kernel_rfl) Go.Proofs.Try.func14 (by kernel_rfl) (by kernel_rfl) (Fn_pure (F14_ok k v1 v2 v3 v10 h7) (by simp [AV.low, AV.lows, AObj.low]) (by simp [AV.low, AV.lows, AObj.low]))) ?_
            refine AR_many hT 1 [3, 4, 25] [(3, (.int .i64 v6)), (4, (.int .i64 v7)), (25, (.bool (v10 == 1)))] [.cells [(.int .i64 v1), (.sl (l76 v2)), (.sl (l34 v3))]] (by kernel_rfl) ?_
            refine AR_op (by kernel_rfl) (OpJ_boolK hT (q := (v10 == 1)) (by kernel_rfl) h8) ?_
            refine AR_many hT 3 [4, 29] [(4, (.int .i64 v7)), (29, (.bool (v6 == 0)))] [.cells [(.int .i64 v1), (.sl (l76 v2)), (.sl (l34 v3))]] (by kernel_rfl) ?_
            refine AR_op (by kernel_rfl) (OpJ_boolK hT (q := (v6 == 0)) (by kernel_rfl) h9) ?_
            refine AR_many hT 3 [33] [(33, (.bool (v7 == 0)))] [.cells [(.int .i64 v1), (.sl (l76 v2)), (.sl (l34 v3))]] (by kernel_rfl) ?_
            refine AR_op (by kernel_rfl) (OpJ_boolK hT (q := (v7 == 0)) (by kernel_rfl) h10) ?_
            refine AR_op (by kernel_rfl) (OpJ_callK (g := 11) (args := []) (by kernel_rfl) Go.Proofs.Try.func11 (by kernel_rfl) (by kernel_rfl) (Fn_pure (F11_ok k  v11 h11) (by simp [AV.low, AV.lows, AObj.low]) (by simp [AV.low, AV.lows, AObj.low]))) ?_
            refine AR_many hT 2 [2] [(2, (.bool v11))] [.cells [(.int .i64 v1), (.sl (l76 v2)), (.sl (l34 v3))]] (by kernel_rfl) ?_
            refine AR_fin (by kernel_rfl) ?_
            refine AE_seqN ?_
            refine AE_ret ?_
            refine AE_seqR ?_
            refine AE_keep [2] (env' := [(2, (.bool v11))]) (by kernel_rfl) ?_
            simp only [Option.some.injEq] at h
            subst h
            exact AE_done ⟨trivial, by kernel_rfl, by kernel_rfl, by simp [AV.low, AV.lows, AObj.low], by simp [AV.low, AV.lows, AObj.low]⟩
          · replace h := bifF h10 h
            refine AW_reg ?_
            refine AR_many hT 1 [3, 4, 23] [(3, (.int .i64 v6)), (4, (.int .i64 v7)), (23, (.agg [(.int .i64 v1), (.sl (l76 v2)), (.sl (l34 v3))]))] [.cells [(.int .i64 v1), (.sl (l76 v2)), (.sl (l34 v3))]] (by kernel_rfl) ?_
            refine AR_op (by kernel_rfl) (OpJ_callK (g := 14) (args := [(.agg [(.int .i64 v1), (.sl (l76 v2)), (.sl (l34 v3))])]) (by kernel_rfl) Go.Proofs.Try.func14 (by kernel_rfl) (by kernel_rfl) (Fn_pure (F14_ok k v1 v2 v3 v10 h7) (by simp [AV.low, AV.lows, AObj.low]) (by simp [AV.low, AV.lows, AObj.low]))) ?_
            refine AR_many hT 1 [3, 4, 25] [(3, (.int .i64 v6)), (4, (.int .i64 v7)), (25, (.bool (v10 == 1)))] [.cells [(.int .i64 v1), (.sl (l76 v2)), (.sl (l34 v3))]] (by kernel_rfl) ?_
            refine AR_op (by kernel_rfl) (OpJ_boolK hT (q := (v10 == 1)) (by kernel_rfl) h8) ?_
            refine AR_many hT 3 [4, 29] [(4, (.int .i64 v7)), (29, (.bool (v6 == 0)))] [.cells [(.int .i64 v1), (.sl (l76 v2)), (.sl (l34 v3))]] (by kernel_rfl) ?_
            refine AR_op (by kernel_rfl) (OpJ_boolK hT (q := (v6 == 0)) (by kernel_rfl) h9) ?_
            refine AR_many hT 3 [33] [(33, (.bool (v7 == 0)))] [.cells [(.int .i64 v1), (.sl (l76 v2)), (.sl (l34 v3))]] (by kernel_rfl) ?_
            refine AR_op (by kernel_rfl) (OpJ_boolK hT (q := (v7 == 0)) (by kernel_rfl) h10) ?_
            refine AR_many hT 3 [2] [(2, (.bool false))] [.cells [(.int .i64 v1), (.sl (l76 v2)), (.sl (l34 v3))]] (by kernel_rfl) ?_
            refine AR_fin (by kernel_rfl) ?_
            refine AE_seqN ?_
            refine AE_ret ?_
            refine AE_seqR ?_
            refine AE_keep [2] (env' := [(2, (.bool false))]) (by kernel_rfl) ?_
            simp only [Option.some.injEq] at h
            subst h
            exact AE_done ⟨trivial, by kernel_rfl, by kernel_rfl, by simp [AV.low, AV.lows, AObj.low], by simp [AV.low, AV.lows, AObj.low]⟩
        · replace h := bifF h9 h
          refine AW_reg ?_
          refine AR_many hT 1 [3, 4, 23] [(3, (.int .i64 v6)), (4, (.int .i64 v7)), (23, (.agg [(.int .i64 v1), (.sl (l76 v2)), (.sl (l34 v3))]))] [.cells [(.int .i64 v1), (.sl (l76 v2)), (.sl (l34 v3))]] (by kernel_rfl) ?_
          refine AR_op (by kernel_rfl) (OpJ_callK (g := 14) (args := [(.agg [(.int .i64 v1), (.sl (l76 v2)), (.sl (l34 v3))])]) (by kernel_rfl) Go.Proofs.Try.func14 (by kernel_rfl) (by kernel_rfl) (Fn_pure (F14_ok k v1 v2 v3 v10 h7) (by simp [AV.low, AV.lows, AObj.low]) (by simp [AV.low, AV.lows, AObj.low]))) ?_
          refine AR_many hT 1 [3, 4, 25] [(3, (.int .i64 v6)), (4, (.int .i64 v7)), (25, (.bool (v10 == 1)))] [.cells [(.int .i64 v1), (.sl (l76 v2)), (.sl (l34 v3))]] (by kernel_rfl) ?_
          refine AR_op (by kernel_rfl) (OpJ_boolK hT (q := (v10 == 1)) (by kernel_rfl) h8) ?_
          refine AR_many hT 3 [4, 29] [(4, (.int .i64 v7)), (29, (.bool (v6 == 0)))] [.cells [(.int .i64 v1), (.sl (l76 v2)), (.sl (l34 v3))]] (by kernel_rfl) ?_
          refine AR_op (by kernel_rfl) (OpJ_boolK hT (q := (v6 == 0)) (by kernel_rfl) h9) ?_
          refine AR_many hT 7 [2] [(2, (.bool false))] [.cells [(.int .i64 v1), (.sl (l76 v2)), (.sl (l34 v3))]] (by kernel_rfl) ?_
          refine AR_fin (by kernel_rfl) ?_
          refine AE_seqN ?_
          refine AE_ret ?_
          refine AE_seqR ?_
          refine AE_keep [2] (env' := [(2, (.bool false))]) (by kernel_rfl) ?_
          simp only [Option.some.injEq] at h
          subst h
          exact AE_done ⟨trivial, by kernel_rfl, by kernel_rfl, by simp [AV.low, AV.lows, AObj.low], by simp [AV.low, AV.lows, AObj.low]⟩
      · replace h := bifF h8 h
        refine AW_reg ?_
        refine AR_many hT 1 [3, 4, 23] [(3, (.int .i64 v6)), (4, (.int .i64 v7)), (23, (.agg [(.int .i64 v1), (.sl (l76 v2)), (.sl (l34 v3))]))] [.cells [(.int .i64 v1), (.sl (l76 v2)), (.sl (l34 v3))]] (by kernel_rfl) ?_
        refine AR_op (by kernel_rfl) (OpJ_callK (g := 14) (args := [(.agg [(.int .i64 v1), (.sl (l76 v2)), (.sl (l34 v3))])]) (by kernel_rfl) Go.Proofs.Try.func14 (by kernel_rfl) (by kernel_rfl) (Fn_pure (F14_ok k v1 v2 v3 v10 h7) (by simp [AV.low, AV.lows, AObj.low]) (by simp [AV.low, AV.lows, AObj.low]))) ?_
        refine AR_many hT 1 [3, 4, 25] [(3, (.int .i64 v6)), (4, (.int .i64 v7)), (25, (.bool (v10 == 1)))] [.cells [(.int .i64 v1), (.sl (l76 v2)), (.sl (l34 v3))]] (by kernel_rfl) ?_
        refine AR_op (by kernel_rfl) (OpJ_boolK hT (q := (v10 == 1)) (by kernel_rfl) h8) ?_
        refine AR_many hT 11 [2] [(2, (.bool false))] [.cells [(.int .i64 v1), (.sl (l76 v2)), (.sl (l34 v3))]] (by kernel_rfl) ?_
        refine AR_fin (by kernel_rfl) ?_
        refine AE_seqN ?_
        refine AE_ret ?_
        refine AE_seqR ?_
        refine AE_keep [2] (env' := [(2, (.bool false))]) (by kernel_rfl) ?_
        simp only [Option.some.injEq] at h
        subst h
        exact AE_done ⟨trivial, by kernel_rfl, by kernel_rfl, by simp [AV.low, AV.lows, AObj.low], by simp [AV.low, AV.lows, AObj.low]⟩
    · replace h := bifF h6 h
      refine AW_ifF (q := (decide (v8 < 0))) (by kernel_rfl) h6 ?_
      refine AE_skip ?_
      refine AE_seqN ?_
      refine AW_seq ?_
      obtain ⟨v12, h12, h⟩ := Option.bind_eq_some_iff.mp h
      try dsimp only at h
      rcases Bool.eq_false_or_eq_true (v12 == 0) with h13 | h13
      · replace h := bifT h13 h
        rcases Bool.eq_false_or_eq_true (v6 == v8) with h14 | h14
        · replace h := bifT h14 h
          rcases Bool.eq_false_or_eq_true (v7 == v9) with h15 | h15
          · replace h := bifT h15 h
            obtain ⟨v13, h16, h⟩ := Option.bind_eq_some_iff.mp h
            try dsimp only at h
            refine AW_reg ?_
            refine AR_many hT 1 [3, 4, 5, 6, 37] [(3, (.int .i64 v6)), (4, (.int .i64 v7)), (5, (.int .i64 v8)), (6, (.int .i64 v9)), (37, (.agg [(.int .i64 v1), (.sl (l76 v2)), (.sl (l34 v3))]))] [.cells [(.int .i64 v1), (.sl (l76 v2)), (.sl (l34 v3))]] (by kernel_rfl) ?_
            refine AR_op (by kernel_rfl) (OpJ_callK (g := 14) (args := [(.agg [(.int .i64 v1), (.sl (l76 v2)), (.sl (l34 v3))])]) (by kernel_rfl) Go.Proofs.Try.func14 (by kernel_rfl) (by kernel_rfl) (Fn_pure (F14_ok k v1 v2 v3 v12 h12) (by simp [AV.low, AV.lows, AObj.low]) (by simp [AV.low, AV.lows, AObj.low]))) ?_
            refine AR_many hT 1 [3, 4, 5, 6, 39] [(3, (.int .i64 v6)), (4, (.int .i64 v7)), (5, (.int .i64 v8)), (6, (.int .i64 v9)), (39, (.bool (v12 == 0)))] [.cells [(.int .i64 v1), (.sl (l76 v2)), (.sl (l34 v3))]] (by kernel_rfl) ?_
            refine AR_op (by kernel_rfl) (OpJ_boolK hT (q := (v12 == 0)) (by kernel_rfl) h13) ?_
            refine AR_many hT 4 [4, 6, 44] [(4, (.int .i64 v7)), (6, (.int .i64 v9)), (44, (.bool (v6 == v8)))] [.cells [(.int .i64 v1), (.sl (l76 v2)), (.sl (l34 v3))]] (by kernel_rfl) ?_
            refine AR_op (by kernel_rfl) (OpJ_boolK hT (q := (v6 == v8)) (by kernel_rfl) h14) ?_
            refine AR_many hT 4 [49] [(49, (.bool (v7 == v9)))] [.cells [(.int .i64 v1), (.sl (l76 v2)), (.sl (l34 v3))]] (by kernel_rfl) ?_
            refine AR_op (by kernel_rfl) (OpJ_boolK hT (q := (v7 == v9)) (by kernel_rfl) h15) ?_
            refine AR_op (by kernel_rfl) (OpJ_callK (g := 11) (args := []) (by kernel_rfl) Go.Proofs.Try.func11 (by kernel_rfl) (by kernel_rfl) (Fn_pure (F11_ok k  v13 h16) (by simp [AV.low, AV.lows, AObj.low]) (by simp [AV.low, AV.lows, AObj.low]))) ?_
            refine AR_many hT 2 [2] [(2, (.bool v13))] [.cells [(.int .i64 v1), (.sl (l76 v2)), (.sl (l34 v3))]] (by kernel_rfl) ?_
            refine AR_fin (by kernel_rfl) ?_
            refine AE_seqN ?_
            refine AE_ret ?_
            refine AE_keep [2] (env' := [(2, (.bool v13))]) (by kernel_rfl) ?_
            simp only [Option.some.injEq] at h
            subst h
            exact AE_done ⟨trivial, by kernel_rfl, by kernel_rfl, by simp [AV.low, AV.lows, AObj.low], by simp [AV.low, AV.lows, AObj.low]⟩
          · replace h := bifF h15 h
            refine AW_reg ?_
            refine AR_many hT 1 [3, 4, 5, 6, 37] [(3, (.int .i64 v6)), (4, (.int .i64 v7)), (5, (.int .i64 v8)), (6, (.int .i64 v9)), (37, (.agg [(.int .i64 v1), (.sl (l76 v2)), (.sl (l34 v3))]))] [.cells [(.int .i64 v1), (.sl (l76 v2)), (.sl (l34 v3))]] (by kernel_rfl) ?_
            refine AR_op (by kernel_rfl) (OpJ_callK (g := 14) (args := [(.agg [(.int .i64 v1), (.sl (l76 v2)), (.sl (l34 v3))])]) (by kernel_rfl) Go.Proofs.Try.func14 (by kernel_rfl) (by kernel_rfl) (Fn_pure (F14_ok k v1 v2 v3 v12 h12) (by simp [AV.low, AV.lows, AObj.low]) (by simp [AV.low, AV.lows, AObj.low]))) ?_
            refine AR_many hT 1 [3, 4, 5, 6, 39] [(3, (.int .i64 v6)), (4, (.int .i64 v7)), (5, (.int .i64 v8)), (6, (.int .i64 v9)), (39, (.bool (v12 == 0)))] [.cells [(.int .i64 v1), (.sl (l76 v2)), (.sl (l34 v3))]] (by kernel_rfl) ?_
            refine AR_op (by kernel_rfl) (OpJ_boolK hT (q := (v12 == 0)) (by kernel_rfl) h13) ?_
            refine AR_many hT 4 [4, 6, 44] [(4, (.int .i64 v7)), (6, (.int .i64 v9)), (44, (.bool (v6 == v8)))] [.cells [(.int .i64 v1), (.sl (l76 v2)), (.sl (l34 v3))]] (by kernel_rfl) ?_
            refine AR_op (by kernel_rfl) (OpJ_boolK hT (q := (v6 == v8)) (by kernel_rfl) h14) ?_
            refine AR_many hT 4 [49] [(49, (.bool (v7 == v9)))] [.cells [(.int .i64 v1), (.sl (l76 v2)), (.sl (l34 v3))]] (by kernel_rfl) ?_
            refine AR_op (by kernel_rfl) (OpJ_boolK hT (q := (v7 == v9)) (by kernel_rfl) h15) ?_
            refine AR_many hT 3 [2] [(2, (.bool false))] [.cells [(.int .i64 v1), (.sl (l76 v2)), (.sl (l34 v3))]] (by kernel_rfl) ?_
            refine AR_fin (by kernel_rfl) ?_
            refine AE_seqN ?_
            refine AE_ret ?_
            refine AE_keep [2] (env' := [(2, (.bool false))]) (by kernel_rfl) ?_
            simp only [Option.some.injEq] at h
            subst h
            exact AE_done ⟨trivial, by kernel_rfl, by kernel_rfl, by simp [AV.low, AV.lows, AObj.low], by simp [AV.low, AV.lows, AObj.low]⟩
        · replace h := bifF h14 h
          refine AW_reg ?_
          refine AR_many hT 1 [3, 4, 5, 6, 37] [(3, (.int .i64 v6)), (4, (.int .i64 v7)), (5, (.int .i64 v8)), (6, (.int .i64 v9)), (37, (.agg [(.int .i64 v1), (.sl (l76 v2)), (.sl (l34 v3))]))] [.cells [(.int .i64 v1), (.sl (l76 v2)), (.sl (l34 v3))]] (by kernel_rfl) ?_
          refine AR_op (by kernel_rfl) (OpJ_callK (g := 14) (args := [(.agg [(.int .i64 v1), (.sl (l76 v2)), (.sl (l34 v3))])]) (by kernel_rfl) Go.Proofs.Try.func14 (by kernel_rfl) (by kernel_rfl) (Fn_pure (F14_ok k v1 v2 v3 v12 h12) (by simp [AV.low, AV.lows, AObj.low]) (by simp [AV.low, AV.lows, AObj.low]))) ?_
          refine AR_many hT 1 [3, 4, 5, 6, 39] [(3, (.int .i64 v6)), (4, (.int .i64 v7)), (5, (.int .i64 v8)), (6, (.int .i64 v9)), (39, (.bool (v12 == 0)))] [.cells [(.int .i64 v1), (.sl (l76 v2)), (.sl (l34 v3))]] (by kernel_rfl) ?_
          refine AR_op (by kernel_rfl) (OpJ_boolK hT (q := (v12 == 0)) (by kernel_rfl) h13) ?_
          refine AR_many hT 4 [4, 6, 44] [(4, (.int .i64 v7)), (6, (.int .i64 v9)), (44, (.bool (v6 == v8)))] [.cells [(.int .i64 v1), (.sl (l76 v2)), (.sl (l34 v3))]] (by kernel_rfl) ?_
          refine AR_op (by kernel_rfl) (OpJ_boolK hT (q := (v6 == v8)) (by kernel_rfl) h14) ?_
          refine AR_many hT 8 [2] [(2, (.bool false))] [.cells [(.int .i64 v1), (.sl (l76 v2)), (.sl (l34 v3))]] (by kernel_rfl) ?_
          refine AR_fin (by kernel_rfl) ?_
          refine AE_seqN ?_
          refine AE_ret ?_
          refine AE_keep [2] (env' := [(2, (.bool false))]) (by kernel_rfl) ?_
          simp only [Option.some.injEq] at h
          subst h
          exact AE_done ⟨trivial, by kernel_rfl, by kernel_rfl, by simp [AV.low, AV.lows, AObj.low], by simp [AV.low, AV.lows, AObj.low]⟩
      · replace h := bifF h13 h
        refine AW_reg ?_
        refine AR_many hT 1 [3, 4, 5, 6, 37] [(3, (.int .i64 v6)), (4, (.int .i64 v7)), (5, (.int .i64 v8)), (6, (.int .i64 v9)), (37, (.agg [(.int .i64 v1), (.sl (l76 v2)), (.sl (l34 v3))]))] [.cells [(.int .i64 v1), (.sl (l76 v2)), (.sl (l34 v3))]] (by kernel_rfl) ?_
        refine AR_op (by kernel_rfl) (OpJ_callK (g := 14) (args := [(.agg [(.int .i64 v1), (.sl (l76 v2)), (.sl (l34 v3))])]) (by kernel_rfl) Go.Proofs.Try.func14 (by kernel_rfl) (by kernel_rfl) (Fn_pure (F14_ok k v1 v2 v3 v12 h12) (by simp [AV.low, AV.lows, AObj.low]) (by simp [AV.low, AV.lows, AObj.low]))) ?_
        refine AR_many hT 1 [3, 4, 5, 6, 39] [(3, (.int .i64 v6)), (4, (.int .i64 v7)), (5, (.int .i64 v8)), (6, (.int .i64 v9)), (39, (.bool (v12 == 0)))] [.cells [(.int .i64 v1), (.sl (l76 v2)), (.sl (l34 v3))]] (by kernel_rfl) ?_
        refine AR_op (by kernel_rfl) (OpJ_boolK hT (q := (v12 == 0)) (by kernel_rfl) h13) ?_
        refine AR_many hT 13 [2] [(2, (.bool false))] [.cells [(.int .i64 v1), (.sl (l76 v2)), (.sl (l34 v3))]] (by kernel_rfl) ?_
        refine AR_fin (by kernel_rfl) ?_
        refine AE_seqN ?_
        refine AE_ret ?_
        refine AE_keep [2] (env' := [(2, (.bool false))]) (by kernel_rfl) ?_
        simp only [Option.some.injEq] at h
        subst h
        exact AE_done ⟨trivial, by kernel_rfl, by kernel_rfl, by simp [AV.low, AV.lows, AObj.low], by simp [AV.low, AV.lows, AObj.low]⟩
end Go.Vm
