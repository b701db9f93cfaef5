/- Printed by gen.py: functions of the program as Lean functions, and that they do what these say. -/
import Derived.Test.YtafpcogpabnjmaaWf1
set_option linter.unusedVariables false
set_option linter.unusedSimpArgs false
set_option linter.unusedSectionVars false
set_option maxRecDepth 20000
namespace Go.Vm
mutual
def F39 : Nat → (List T69) → Int → Option (Int × Int)
  | 0, _, _ => none
  | k + 1, v1, v2 =>
    F39_l0 k v1 v2 0 0 0
def F39_j1 : Nat → (List T69) → Int → Int → Int → Int → Bool → Int → ByteArray → ByteArray → (List T57) → (List T69) → (List T69) → Option (Int × Int)
  | 0, _, _, _, _, _, _, _, _, _, _, _, _ => none
  | k7 + 1, v1, v2, v13, v14, v15, v16, v17, v18, v19, v20, v21, v22 =>
    (bif v16 then
      some ((-1), 0)
    else
      ((F80 k7 ).bind fun v24 =>
        ((idx v24 v17).bind fun ⟨v25, v26, v27, v28, v29⟩ =>
          ((F81 k7 v18 v25).bind fun v46 =>
            (bif (!v46) then
              F39_j2 k7 v1 v2 v13 v14 v15 true v20 v21 v22
            else
              ((F81 k7 v19 v26).bind fun v47 =>
                (bif (!v47) then
                  F39_j2 k7 v1 v2 v13 v14 v15 true v20 v21 v22
                else
                  (bif (((l57 v20).length : Int) != v27) then
                    F39_j2 k7 v1 v2 v13 v14 v15 true v20 v21 v22
                  else
                    (bif (v28 == 0) then
                      (bif (decide (((l69 v21).length : Int) > 0)) then
                        F39_j2 k7 v1 v2 v13 v14 v15 true v20 v21 v22
                      else
                        (bif (v29 == 0) then
                          F39_j2 k7 v1 v2 v13 v14 v15 (decide (((l69 v22).length : Int) > 0)) v20 v21 v22
                        else
                          F39_j2 k7 v1 v2 v13 v14 v15 false v20 v21 v22))
                    else
                      (bif (v29 == 0) then
                        F39_j2 k7 v1 v2 v13 v14 v15 (decide (((l69 v22).length : Int) > 0)) v20 v21 v22
                      else
                        F39_j2 k7 v1 v2 v13 v14 v15 false v20 v21 v22))))))))))
def F39_j2 : Nat → (List T69) → Int → Int → Int → Int → Bool → (List T57) → (List T69) → (List T69) → Option (Int × Int)
  | 0, _, _, _, _, _, _, _, _, _ => none
  | k21 + 1, v1, v2, v30, v31, v32, v33, v37, v38, v39 =>
    (bif v33 then
      some ((-1), 0)
    else
      ((F39 k21 v38 (IntKind.wrap .i64 (v2 - 1))).bind fun ⟨v48, v49⟩ =>
        ((F39 k21 v39 (IntKind.wrap .i64 (v2 - 1))).bind fun ⟨v50, v51⟩ =>
          (bif (decide (v48 < 0)) then
            F39_j3 k21 v1 v2 v30 v31 v32 v48 v49 v50 v51 true v37
          else
            F39_j3 k21 v1 v2 v30 v31 v32 v48 v49 v50 v51 (decide (v50 < 0)) v37))))
def F39_j3 : Nat → (List T69) → Int → Int → Int → Int → Int → Int → Int → Int → Bool → (List T57) → Option (Int × Int)
  | 0, _, _, _, _, _, _, _, _, _, _, _ => none
  | k27 + 1, v1, v2, v52, v53, v54, v55, v56, v57, v58, v59, v63 =>
    (bif v59 then
      some ((-1), 0)
    else
      F39_l4 k27 v1 v2 v52 v54 v55 v56 v57 v58 v63 v53 0)
def F39_j5 : Nat → (List T69) → Int → Int → Int → Int → Bool → Option (Int × Int)
  | 0, _, _, _, _, _, _ => none
  | k37 + 1, v1, v2, v81, v82, v83, v84 =>
    (bif v84 then
      some ((-1), 0)
    else
      F39_l0 k37 v1 v2 v81 v82 (IntKind.wrap .i64 (v83 + 1)))
def F39_l0 : Nat → (List T69) → Int → Int → Int → Int → Option (Int × Int)
  | 0, _, _, _, _, _ => none
  | k1 + 1, v1, v2, v3, v4, v5 =>
    (bif (decide (v5 < ((l69 v1).length : Int))) then
      ((idx v1 v5).bind fun ⟨v6, v7, v8, v9, v10, v11, v12⟩ =>
        (bif (decide (v2 < 1)) then
          F39_j1 k1 v1 v2 v3 v4 v5 true v6 v7 v8 v9 v10 v11
        else
          (bif (decide (v6 < 1)) then
            F39_j1 k1 v1 v2 v3 v4 v5 true v6 v7 v8 v9 v10 v11
          else
            F39_j1 k1 v1 v2 v3 v4 v5 (decide (v6 > 16)) v6 v7 v8 v9 v10 v11)))
    else
      some (v3, v4))
def F39_l4 : Nat → (List T69) → Int → Int → Int → Int → Int → Int → Int → (List T57) → Int → Int → Option (Int × Int)
  | 0, _, _, _, _, _, _, _, _, _, _, _ => none
  | k30 + 1, v1, v2, v52, v54, v55, v56, v57, v58, v63, v72, v73 =>
    (bif (decide (v73 < ((l57 v63).length : Int))) then
      ((idx v63 v73).bind fun ⟨v74, v75, v76, v77, v78, v79⟩ =>
        ((F82 k30 v74 v75 v76 v77 v78 v79 12).bind fun v80 =>
          (bif (decide (v80 < 0)) then
            some ((-1), 0)
          else
            F39_l4 k30 v1 v2 v52 v54 v55 v56 v57 v58 v63 (IntKind.wrap .i64 (v72 + v80)) (IntKind.wrap .i64 (v73 + 1)))))
    else
      (bif (decide ((IntKind.wrap .i64 ((IntKind.wrap .i64 ((IntKind.wrap .i64 (v52 + 1)) + v55)) + v57)) > 200)) then
        F39_j5 k30 v1 v2 (IntKind.wrap .i64 ((IntKind.wrap .i64 ((IntKind.wrap .i64 (v52 + 1)) + v55)) + v57)) (IntKind.wrap .i64 ((IntKind.wrap .i64 (v72 + v56)) + v58)) v54 true
      else
        F39_j5 k30 v1 v2 (IntKind.wrap .i64 ((IntKind.wrap .i64 ((IntKind.wrap .i64 (v52 + 1)) + v55)) + v57)) (IntKind.wrap .i64 ((IntKind.wrap .i64 (v72 + v56)) + v58)) v54 (decide ((IntKind.wrap .i64 ((IntKind.wrap .i64 (v72 + v56)) + v58)) > 8192))))
end

theorem F39_step (K0 : Nat) (ih_F39 : ∀ k, k < K0 → ∀ (v1 : (List T69)) (v2 : Int) (r1 : Int) (r2 : Int), F39 k v1 v2 = some (r1, r2) → Fn prog 39 [(.sl (l69 v1)), (aI v2)] [] (.tup [(aI r1), (aI r2)]) []) : ∀ (v1 : (List T69)) (v2 : Int) (r1 : Int) (r2 : Int), F39 K0 v1 v2 = some (r1, r2) → Fn prog 39 [(.sl (l69 v1)), (aI v2)] [] (.tup [(aI r1), (aI r2)]) [] := by
  intro v1 v2 r1 r2 h
  cases K0 with
  | zero => rw [F39] at h; cases h
  | succ k =>
    have hk : k < k + 1 := Nat.lt_succ_self k
    rw [F39] at h
    refine Fn_bodyK hT Go.Proofs.Try.func39 (c := Go.Proofs.Try.f39.body.getD .skip) (by kernel_rfl) (by kernel_rfl) (by kernel_rfl) ?_
    refine zs hT [0, 1] [(0, (.sl (l69 v1))), (1, (aI v2))] ?_
    refine zs hT [0, 1, 6, 7] [(0, (.sl (l69 v1))), (1, (aI v2)), (6, (aI 0)), (7, (aI 0))] ?_
    refine AW_seq ?_
    refine zs hT [0, 1, 6, 7, 8] [(0, (.sl (l69 v1))), (1, (aI v2)), (6, (aI 0)), (7, (aI 0)), (8, (aI 0))] ?_
    refine AW_block ?_
    refine zKw [0, 1, 6, 7, 8] [(0, (.sl (l69 v1))), (1, (aI v2)), (6, (aI 0)), (7, (aI 0)), (8, (aI 0))] ?_
    refine AW_loop (fun n env L => n ≤ k ∧ ∃ (v3 : Int) (v4 : Int) (v5 : Int), env = [(0, (.sl (l69 v1))), (1, (aI v2)), (6, (aI v3)), (7, (aI v4)), (8, (aI v5))] ∧ L = [] ∧ F39_l0 n v1 v2 v3 v4 v5 = some (r1, r2)) k ⟨Nat.le_refl _, 0, 0, 0, rfl, rfl, h⟩ ?_
    rintro n _ _ ⟨hn, v3, v4, v5, rfl, rfl, h⟩
    cases n with
    | zero => rw [F39_l0] at h; cases h
    | succ k1 =>
      have h2 : k1 < (k + 1) := by omega
      rw [F39_l0] at h
      refine AW_seq ?_
      refine zs hT [0, 1, 6, 7, 8, 20] [(0, (.sl (l69 v1))), (1, (aI v2)), (6, (aI v3)), (7, (aI v4)), (8, (aI v5)), (20, (.bool (decide (v5 < ((l69 v1).length : Int)))))] ?_
      rcases bif_split h with ⟨h3, h⟩ | ⟨h3, h⟩
      · refine zT h3 ?_
        refine AE_skip ?_
        refine AE_seqN ?_
        refine AW_seq ?_
        refine AW_block ?_
        refine AW_seq ?_
        obtain ⟨⟨v6, v7, v8, v9, v10, v11, v12⟩, h4, h⟩ := bsm h
        try dsimp only at h
        refine AW_reg ?_
        refine zm hT 2 [0, 1, 6, 7, 8, 23, 24] [(0, (.sl (l69 v1))), (1, (aI v2)), (6, (aI v3)), (7, (aI v4)), (8, (aI v5)), (23, (.sl (l69 v1))), (24, (aI v5))] ?_
        refine zO (jX hT 7 (i69 h4)) ?_
        refine zE hT 3 [0, 1, 6, 7, 8, 9] [(0, (.sl (l69 v1))), (1, (aI v2)), (6, (aI v3)), (7, (aI v4)), (8, (aI v5)), (9, (.ptr 0 0))] [.cells [(aI v6), (.str v7), (.str v8), (.sl (l57 v9)), (.sl (l69 v10)), (.sl (l69 v11)), (aI v12)]] ?_
        refine AE_seqN ?_
        refine AW_seq ?_
        refine AW_join (fun env L => ∃ (v13 : Int) (v14 : Int) (v15 : Int) (v16 : Bool) (v17 : Int) (v18 : ByteArray) (v19 : ByteArray) (v20 : (List T57)) (v21 : (List T69)) (v22 : (List T69)) (v23 : Int), env = [(0, (.sl (l69 v1))), (1, (aI v2)), (6, (aI v13)), (7, (aI v14)), (8, (aI v15)), (9, (.ptr 0 0)), (38, (.bool v16))] ∧ L = [.cells [(aI v17), (.str v18), (.str v19), (.sl (l57 v20)), (.sl (l69 v21)), (.sl (l69 v22)), (aI v23)]] ∧ ∃ n, n ≤ k1 ∧ F39_j1 n v1 v2 v13 v14 v15 v16 v17 v18 v19 v20 v21 v22 = some (r1, r2)) ?_ ?_
        · rcases bif_split h with ⟨h5, h⟩ | ⟨h5, h⟩
          · refine AW_reg ?_
            refine zm hT 2 [0, 1, 6, 7, 8, 9, 28] [(0, (.sl (l69 v1))), (1, (aI v2)), (6, (aI v3)), (7, (aI v4)), (8, (aI v5)), (9, (.ptr 0 0)), (28, (.bool (decide (v2 < 1))))] ?_
            refine zO (jQ hT h5) ?_
            refine ze hT 9 [0, 1, 6, 7, 8, 9, 38] [(0, (.sl (l69 v1))), (1, (aI v2)), (6, (aI v3)), (7, (aI v4)), (8, (aI v5)), (9, (.ptr 0 0)), (38, (.bool true))] ?_
            refine zK [0, 1, 6, 7, 8, 9, 38] [(0, (.sl (l69 v1))), (1, (aI v2)), (6, (aI v3)), (7, (aI v4)), (8, (aI v5)), (9, (.ptr 0 0)), (38, (.bool true))] ?_
            exact AE_done ⟨v3, v4, v5, true, v6, v7, v8, v9, v10, v11, v12, rfl, rfl, k1, by omega, h⟩
          · rcases bif_split h with ⟨h6, h⟩ | ⟨h6, h⟩
            · refine AW_reg ?_
              refine zm hT 2 [0, 1, 6, 7, 8, 9, 28] [(0, (.sl (l69 v1))), (1, (aI v2)), (6, (aI v3)), (7, (aI v4)), (8, (aI v5)), (9, (.ptr 0 0)), (28, (.bool (decide (v2 < 1))))] ?_
              refine zO (jQ hT h5) ?_
              refine zm hT 4 [0, 1, 6, 7, 8, 9, 33] [(0, (.sl (l69 v1))), (1, (aI v2)), (6, (aI v3)), (7, (aI v4)), (8, (aI v5)), (9, (.ptr 0 0)), (33, (.bool (decide (v6 < 1))))] ?_
              refine zO (jQ hT h6) ?_
              refine ze hT 4 [0, 1, 6, 7, 8, 9, 38] [(0, (.sl (l69 v1))), (1, (aI v2)), (6, (aI v3)), (7, (aI v4)), (8, (aI v5)), (9, (.ptr 0 0)), (38, (.bool true))] ?_
              refine zK [0, 1, 6, 7, 8, 9, 38] [(0, (.sl (l69 v1))), (1, (aI v2)), (6, (aI v3)), (7, (aI v4)), (8, (aI v5)), (9, (.ptr 0 0)), (38, (.bool true))] ?_
              exact AE_done ⟨v3, v4, v5, true, v6, v7, v8, v9, v10, v11, v12, rfl, rfl, k1, by omega, h⟩
            · refine AW_reg ?_
              refine zm hT 2 [0, 1, 6, 7, 8, 9, 28] [(0, (.sl (l69 v1))), (1, (aI v2)), (6, (aI v3)), (7, (aI v4)), (8, (aI v5)), (9, (.ptr 0 0)), (28, (.bool (decide (v2 < 1))))] ?_
              refine zO (jQ hT h5) ?_
              refine zm hT 4 [0, 1, 6, 7, 8, 9, 33] [(0, (.sl (l69 v1))), (1, (aI v2)), (6, (aI v3)), (7, (aI v4)), (8, (aI v5)), (9, (.ptr 0 0)), (33, (.bool (decide (v6 < 1))))] ?_
              refine zO (jQ hT h6) ?_
              refine ze hT 4 [0, 1, 6, 7, 8, 9, 38] [(0, (.sl (l69 v1))), (1, (aI v2)), (6, (aI v3)), (7, (aI v4)), (8, (aI v5)), (9, (.ptr 0 0)), (38, (.bool (decide (v6 > 16))))] ?_
              refine zK [0, 1, 6, 7, 8, 9, 38] [(0, (.sl (l69 v1))), (1, (aI v2)), (6, (aI v3)), (7, (aI v4)), (8, (aI v5)), (9, (.ptr 0 0)), (38, (.bool (decide (v6 > 16))))] ?_
              exact AE_done ⟨v3, v4, v5, (decide (v6 > 16)), v6, v7, v8, v9, v10, v11, v12, rfl, rfl, k1, by omega, h⟩
        · rintro _ _ ⟨v13, v14, v15, v16, v17, v18, v19, v20, v21, v22, v23, rfl, rfl, n, hn, h⟩
          obtain _ | k7 := n
          · rw [F39_j1] at h; cases h
          have h8 : k7 < (k + 1) := by omega
          rw [F39_j1] at h
          rcases bif_split h with ⟨h9, h⟩ | ⟨h9, h⟩
          · refine zT h9 ?_
            refine zs hT [4, 5] [(4, (aI (-1))), (5, (aI 0))] ?_
            refine AE_ret ?_
            refine AE_seqR ?_
            refine AE_blkR ?_
            refine AE_seqR ?_
            refine AE_seqR ?_
            refine AE_blkR ?_
            refine AE_seqR ?_
            refine zK [4, 5] [(4, (aI (-1))), (5, (aI 0))] ?_
            simp only [Option.some.injEq, Prod.mk.injEq] at h
            obtain ⟨rfl, rfl⟩ := h
            exact zEnd
          · refine zN h9 ?_
            refine AE_skip ?_
            refine AE_seqN ?_
            refine AW_seq ?_
            obtain ⟨v24, h10, h⟩ := bsm h
            try dsimp only at h
            obtain ⟨⟨v25, v26, v27, v28, v29⟩, h11, h⟩ := bsm h
            try dsimp only at h
            refine AW_drx hmix [⟨(.sl (l119 v24)), [], 0, 1, false⟩, ⟨(.ptr 0 0), [], 0, 1, false⟩, ⟨(aI v17), [1], 0, 1, false⟩, ⟨(.rp [(aI v25), (aI v26), (aI v27), (aI v28), (aI v29)]), [0, 1, 2], 0, 1, false⟩, ⟨(.agg [(aI v25), (aI v26), (aI v27), (aI v28), (aI v29)]), [0, 1, 2, 3], 0, 1, false⟩, ⟨(.ptr 1 0), [], 0, 0, true⟩, ⟨.any, [0, 1, 2, 3, 4, 5], 1, 1, true⟩] [5, 6] (fun p => match p with | 0 => [.cells [(aI v17), (.str v18), (.str v19), (.sl (l57 v20)), (.sl (l69 v21)), (.sl (l69 v22)), (aI v23)]] | 1 => [.cells [(aI v17), (.str v18), (.str v19), (.sl (l57 v20)), (.sl (l69 v21)), (.sl (l69 v22)), (aI v23)], .cells [(aI 0), (aI 0), (aI 0), (aI 0), (aI 0)]] | _ => [.cells [(aI v17), (.str v18), (.str v19), (.sl (l57 v20)), (.sl (l69 v21)), (.sl (l69 v22)), (aI v23)], .cells [(aI v25), (aI v26), (aI v27), (aI v28), (aI v29)]]) [0, 1, 6, 7, 8, 9, 10] [(0, (.sl (l69 v1))), (1, (aI v2)), (6, (aI v13)), (7, (aI v14)), (8, (aI v15)), (9, (.ptr 0 0)), (10, (.ptr 1 0))] [.cells [(aI v17), (.str v18), (.str v19), (.sl (l57 v20)), (.sl (l69 v21)), (.sl (l69 v22)), (aI v23)], .cells [(aI v25), (aI v26), (aI v27), (aI v28), (aI v29)]] (by kernel_rfl) rfl rfl (by kernel_rfl) ?_ ?_
            · refine SA_tell (v := (.sl (l119 v24))) (by kernel_rfl) (by kernel_rfl) (by kernel_rfl) (fun L => (jP Go.Proofs.Try.func80 (F80_ok k7  v24 h10))) ?_
              refine SA_plain hT 2 (by kernel_rfl) ?_
              refine SA_tell (v := (.rp [(aI v25), (aI v26), (aI v27), (aI v28), (aI v29)])) (by kernel_rfl) (by kernel_rfl) (by kernel_rfl) (fun L => (jX hT 5 (i119 h11))) ?_
              refine SA_plain hT 3 (by kernel_rfl) ?_
              exact SA_end (by kernel_rfl)
            refine AE_seqN ?_
            refine AW_seq ?_
            refine AW_join (fun env L => ∃ (v30 : Int) (v31 : Int) (v32 : Int) (v33 : Bool) (v34 : Int) (v35 : ByteArray) (v36 : ByteArray) (v37 : (List T57)) (v38 : (List T69)) (v39 : (List T69)) (v40 : Int) (v41 : Int) (v42 : Int) (v43 : Int) (v44 : Int) (v45 : Int), env = [(0, (.sl (l69 v1))), (1, (aI v2)), (6, (aI v30)), (7, (aI v31)), (8, (aI v32)), (9, (.ptr 0 0)), (87, (.bool v33))] ∧ L = [.cells [(aI v34), (.str v35), (.str v36), (.sl (l57 v37)), (.sl (l69 v38)), (.sl (l69 v39)), (aI v40)], .cells [(aI v41), (aI v42), (aI v43), (aI v44), (aI v45)]] ∧ ∃ n, n ≤ k7 ∧ F39_j2 n v1 v2 v30 v31 v32 v33 v37 v38 v39 = some (r1, r2)) ?_ ?_
            · obtain ⟨v46, h12, h⟩ := bsm h
              try dsimp only at h
              rcases bif_split h with ⟨h13, h⟩ | ⟨h13, h⟩
              · refine AW_reg ?_
                refine zm hT 4 [0, 1, 6, 7, 8, 9, 10, 45, 47] [(0, (.sl (l69 v1))), (1, (aI v2)), (6, (aI v13)), (7, (aI v14)), (8, (aI v15)), (9, (.ptr 0 0)), (10, (.ptr 1 0)), (45, (.str v18)), (47, (aI v25))] ?_
                refine zO (jP Go.Proofs.Try.func81 (F81_ok k7 v18 v25 v46 h12)) ?_
                refine zm hT 1 [0, 1, 6, 7, 8, 9, 10, 49] [(0, (.sl (l69 v1))), (1, (aI v2)), (6, (aI v13)), (7, (aI v14)), (8, (aI v15)), (9, (.ptr 0 0)), (10, (.ptr 1 0)), (49, (.bool (!v46)))] ?_
                refine zO (jQ hT h13) ?_
                refine ze hT 37 [0, 1, 6, 7, 8, 9, 87] [(0, (.sl (l69 v1))), (1, (aI v2)), (6, (aI v13)), (7, (aI v14)), (8, (aI v15)), (9, (.ptr 0 0)), (87, (.bool true))] ?_
                refine zK [0, 1, 6, 7, 8, 9, 87] [(0, (.sl (l69 v1))), (1, (aI v2)), (6, (aI v13)), (7, (aI v14)), (8, (aI v15)), (9, (.ptr 0 0)), (87, (.bool true))] ?_
                exact AE_done ⟨v13, v14, v15, true, v17, v18, v19, v20, v21, v22, v23, v25, v26, v27, v28, v29, rfl, rfl, k7, by omega, h⟩
              · obtain ⟨v47, h14, h⟩ := bsm h
                try dsimp only at h
                rcases bif_split h with ⟨h15, h⟩ | ⟨h15, h⟩
                · refine AW_reg ?_
                  refine zm hT 4 [0, 1, 6, 7, 8, 9, 10, 45, 47] [(0, (.sl (l69 v1))), (1, (aI v2)), (6, (aI v13)), (7, (aI v14)), (8, (aI v15)), (9, (.ptr 0 0)), (10, (.ptr 1 0)), (45, (.str v18)), (47, (aI v25))] ?_
                  refine zO (jP Go.Proofs.Try.func81 (F81_ok k7 v18 v25 v46 h12)) ?_
                  refine zm hT 1 [0, 1, 6, 7, 8, 9, 10, 49] [(0, (.sl (l69 v1))), (1, (aI v2)), (6, (aI v13)), (7, (aI v14)), (8, (aI v15)), (9, (.ptr 0 0)), (10, (.ptr 1 0)), (49, (.bool (!v46)))] ?_
                  refine zO (jQ hT h13) ?_
                  refine zm hT 4 [0, 1, 6, 7, 8, 9, 10, 50, 52, 54] [(0, (.sl (l69 v1))), (1, (aI v2)), (6, (aI v13)), (7, (aI v14)), (8, (aI v15)), (9, (.ptr 0 0)), (10, (.ptr 1 0)), (50, (.bool false)), (52, (.str v19)), (54, (aI v26))] ?_
                  refine zO (jP Go.Proofs.Try.func81 (F81_ok k7 v19 v26 v47 h14)) ?_
                  refine zm hT 2 [0, 1, 6, 7, 8, 9, 10, 57] [(0, (.sl (l69 v1))), (1, (aI v2)), (6, (aI v13)), (7, (aI v14)), (8, (aI v15)), (9, (.ptr 0 0)), (10, (.ptr 1 0)), (57, (.bool (!v47)))] ?_
                  refine zO (jQ hT h15) ?_
                  refine ze hT 29 [0, 1, 6, 7, 8, 9, 87] [(0, (.sl (l69 v1))), (1, (aI v2)), (6, (aI v13)), (7, (aI v14)), (8, (aI v15)), (9, (.ptr 0 0)), (87, (.bool true))] ?_
                  refine zK [0, 1, 6, 7, 8, 9, 87] [(0, (.sl (l69 v1))), (1, (aI v2)), (6, (aI v13)), (7, (aI v14)), (8, (aI v15)), (9, (.ptr 0 0)), (87, (.bool true))] ?_
                  exact AE_done ⟨v13, v14, v15, true, v17, v18, v19, v20, v21, v22, v23, v25, v26, v27, v28, v29, rfl, rfl, k7, by omega, h⟩
                · rcases bif_split h with ⟨h16, h⟩ | ⟨h16, h⟩
                  · refine AW_reg ?_
                    refine zm hT 4 [0, 1, 6, 7, 8, 9, 10, 45, 47] [(0, (.sl (l69 v1))), (1, (aI v2)), (6, (aI v13)), (7, (aI v14)), (8, (aI v15)), (9, (.ptr 0 0)), (10, (.ptr 1 0)), (45, (.str v18)), (47, (aI v25))] ?_
                    refine zO (jP Go.Proofs.Try.func81 (F81_ok k7 v18 v25 v46 h12)) ?_
                    refine zm hT 1 [0, 1, 6, 7, 8, 9, 10, 49] [(0, (.sl (l69 v1))), (1, (aI v2)), (6, (aI v13)), (7, (aI v14)), (8, (aI v15)), (9, (.ptr 0 0)), (10, (.ptr 1 0)), (49, (.bool (!v46)))] ?_
                    refine zO (jQ hT h13) ?_
                    refine zm hT 4 [0, 1, 6, 7, 8, 9, 10, 50, 52, 54] [(0, (.sl (l69 v1))), (1, (aI v2)), (6, (aI v13)), (7, (aI v14)), (8, (aI v15)), (9, (.ptr 0 0)), (10, (.ptr 1 0)), (50, (.bool false)), (52, (.str v19)), (54, (aI v26))] ?_
                    refine zO (jP Go.Proofs.Try.func81 (F81_ok k7 v19 v26 v47 h14)) ?_
                    refine zm hT 2 [0, 1, 6, 7, 8, 9, 10, 57] [(0, (.sl (l69 v1))), (1, (aI v2)), (6, (aI v13)), (7, (aI v14)), (8, (aI v15)), (9, (.ptr 0 0)), (10, (.ptr 1 0)), (57, (.bool (!v47)))] ?_
                    refine zO (jQ hT h15) ?_
                    refine zm hT 7 [0, 1, 6, 7, 8, 9, 10, 65] [(0, (.sl (l69 v1))), (1, (aI v2)), (6, (aI v13)), (7, (aI v14)), (8, (aI v15)), (9, (.ptr 0 0)), (10, (.ptr 1 0)), (65, (.bool (((l57 v20).length : Int) != v27)))] ?_
                    refine zO (jQ hT h16) ?_
                    refine ze hT 21 [0, 1, 6, 7, 8, 9, 87] [(0, (.sl (l69 v1))), (1, (aI v2)), (6, (aI v13)), (7, (aI v14)), (8, (aI v15)), (9, (.ptr 0 0)), (87, (.bool true))] ?_
                    refine zK [0, 1, 6, 7, 8, 9, 87] [(0, (.sl (l69 v1))), (1, (aI v2)), (6, (aI v13)), (7, (aI v14)), (8, (aI v15)), (9, (.ptr 0 0)), (87, (.bool true))] ?_
                    exact AE_done ⟨v13, v14, v15, true, v17, v18, v19, v20, v21, v22, v23, v25, v26, v27, v28, v29, rfl, rfl, k7, by omega, h⟩
                  · rcases bif_split h with ⟨h17, h⟩ | ⟨h17, h⟩
                    · rcases bif_split h with ⟨h18, h⟩ | ⟨h18, h⟩
                      · refine AW_reg ?_
                        refine zm hT 4 [0, 1, 6, 7, 8, 9, 10, 45, 47] [(0, (.sl (l69 v1))), (1, (aI v2)), (6, (aI v13)), (7, (aI v14)), (8, (aI v15)), (9, (.ptr 0 0)), (10, (.ptr 1 0)), (45, (.str v18)), (47, (aI v25))] ?_
                        refine zO (jP Go.Proofs.Try.func81 (F81_ok k7 v18 v25 v46 h12)) ?_
                        refine zm hT 1 [0, 1, 6, 7, 8, 9, 10, 49] [(0, (.sl (l69 v1))), (1, (aI v2)), (6, (aI v13)), (7, (aI v14)), (8, (aI v15)), (9, (.ptr 0 0)), (10, (.ptr 1 0)), (49, (.bool (!v46)))] ?_
                        refine zO (jQ hT h13) ?_
                        refine zm hT 4 [0, 1, 6, 7, 8, 9, 10, 50, 52, 54] [(0, (.sl (l69 v1))), (1, (aI v2)), (6, (aI v13)), (7, (aI v14)), (8, (aI v15)), (9, (.ptr 0 0)), (10, (.ptr 1 0)), (50, (.bool false)), (52, (.str v19)), (54, (aI v26))] ?_
                        refine zO (jP Go.Proofs.Try.func81 (F81_ok k7 v19 v26 v47 h14)) ?_
                        refine zm hT 2 [0, 1, 6, 7, 8, 9, 10, 57] [(0, (.sl (l69 v1))), (1, (aI v2)), (6, (aI v13)), (7, (aI v14)), (8, (aI v15)), (9, (.ptr 0 0)), (10, (.ptr 1 0)), (57, (.bool (!v47)))] ?_
                        refine zO (jQ hT h15) ?_
                        refine zm hT 7 [0, 1, 6, 7, 8, 9, 10, 65] [(0, (.sl (l69 v1))), (1, (aI v2)), (6, (aI v13)), (7, (aI v14)), (8, (aI v15)), (9, (.ptr 0 0)), (10, (.ptr 1 0)), (65, (.bool (((l57 v20).length : Int) != v27)))] ?_
                        refine zO (jQ hT h16) ?_
                        refine zm hT 3 [0, 1, 6, 7, 8, 9, 10, 66, 69] [(0, (.sl (l69 v1))), (1, (aI v2)), (6, (aI v13)), (7, (aI v14)), (8, (aI v15)), (9, (.ptr 0 0)), (10, (.ptr 1 0)), (66, (.bool false)), (69, (.bool (v28 == 0)))] ?_
                        refine zO (jQ hT h17) ?_
                        refine zm hT 6 [0, 1, 6, 7, 8, 9, 10, 76] [(0, (.sl (l69 v1))), (1, (aI v2)), (6, (aI v13)), (7, (aI v14)), (8, (aI v15)), (9, (.ptr 0 0)), (10, (.ptr 1 0)), (76, (.bool (decide (((l69 v21).length : Int) > 0))))] ?_
                        refine zO (jQ hT h18) ?_
                        refine ze hT 10 [0, 1, 6, 7, 8, 9, 87] [(0, (.sl (l69 v1))), (1, (aI v2)), (6, (aI v13)), (7, (aI v14)), (8, (aI v15)), (9, (.ptr 0 0)), (87, (.bool true))] ?_
                        refine zK [0, 1, 6, 7, 8, 9, 87] [(0, (.sl (l69 v1))), (1, (aI v2)), (6, (aI v13)), (7, (aI v14)), (8, (aI v15)), (9, (.ptr 0 0)), (87, (.bool true))] ?_
                        exact AE_done ⟨v13, v14, v15, true, v17, v18, v19, v20, v21, v22, v23, v25, v26, v27, v28, v29, rfl, rfl, k7, by omega, h⟩
                      · rcases bif_split h with ⟨h19, h⟩ | ⟨h19, h⟩
                        · refine AW_reg ?_
                          refine zm hT 4 [0, 1, 6, 7, 8, 9, 10, 45, 47] [(0, (.sl (l69 v1))), (1, (aI v2)), (6, (aI v13)), (7, (aI v14)), (8, (aI v15)), (9, (.ptr 0 0)), (10, (.ptr 1 0)), (45, (.str v18)), (47, (aI v25))] ?_
                          refine zO (jP Go.Proofs.Try.func81 (F81_ok k7 v18 v25 v46 h12)) ?_
                          refine zm hT 1 [0, 1, 6, 7, 8, 9, 10, 49] [(0, (.sl (l69 v1))), (1, (aI v2)), (6, (aI v13)), (7, (aI v14)), (8, (aI v15)), (9, (.ptr 0 0)), (10, (.ptr 1 0)), (49, (.bool (!v46)))] ?_
                          refine zO (jQ hT h13) ?_
                          refine zm hT 4 [0, 1, 6, 7, 8, 9, 10, 50, 52, 54] [(0, (.sl (l69 v1))), (1, (aI v2)), (6, (aI v13)), (7, (aI v14)), (8, (aI v15)), (9, (.ptr 0 0)), (10, (.ptr 1 0)), (50, (.bool false)), (52, (.str v19)), (54, (aI v26))] ?_
                          refine zO (jP Go.Proofs.Try.func81 (F81_ok k7 v19 v26 v47 h14)) ?_
                          refine zm hT 2 [0, 1, 6, 7, 8, 9, 10, 57] [(0, (.sl (l69 v1))), (1, (aI v2)), (6, (aI v13)), (7, (aI v14)), (8, (aI v15)), (9, (.ptr 0 0)), (10, (.ptr 1 0)), (57, (.bool (!v47)))] ?_
                          refine zO (jQ hT h15) ?_
                          refine zm hT 7 [0, 1, 6, 7, 8, 9, 10, 65] [(0, (.sl (l69 v1))), (1, (aI v2)), (6, (aI v13)), (7, (aI v14)), (8, (aI v15)), (9, (.ptr 0 0)), (10, (.ptr 1 0)), (65, (.bool (((l57 v20).length : Int) != v27)))] ?_
                          refine zO (jQ hT h16) ?_
                          refine zm hT 3 [0, 1, 6, 7, 8, 9, 10, 66, 69] [(0, (.sl (l69 v1))), (1, (aI v2)), (6, (aI v13)), (7, (aI v14)), (8, (aI v15)), (9, (.ptr 0 0)), (10, (.ptr 1 0)), (66, (.bool false)), (69, (.bool (v28 == 0)))] ?_
                          refine zO (jQ hT h17) ?_
                          refine zm hT 6 [0, 1, 6, 7, 8, 9, 10, 76] [(0, (.sl (l69 v1))), (1, (aI v2)), (6, (aI v13)), (7, (aI v14)), (8, (aI v15)), (9, (.ptr 0 0)), (10, (.ptr 1 0)), (76, (.bool (decide (((l69 v21).length : Int) > 0))))] ?_
                          refine zO (jQ hT h18) ?_
                          refine zm hT 3 [0, 1, 6, 7, 8, 9, 77, 80] [(0, (.sl (l69 v1))), (1, (aI v2)), (6, (aI v13)), (7, (aI v14)), (8, (aI v15)), (9, (.ptr 0 0)), (77, (.bool false)), (80, (.bool (v29 == 0)))] ?_
                          refine zO (jQ hT h19) ?_
                          refine ze hT 6 [0, 1, 6, 7, 8, 9, 87] [(0, (.sl (l69 v1))), (1, (aI v2)), (6, (aI v13)), (7, (aI v14)), (8, (aI v15)), (9, (.ptr 0 0)), (87, (.bool (decide (((l69 v22).length : Int) > 0))))] ?_
                          refine zK [0, 1, 6, 7, 8, 9, 87] [(0, (.sl (l69 v1))), (1, (aI v2)), (6, (aI v13)), (7, (aI v14)), (8, (aI v15)), (9, (.ptr 0 0)), (87, (.bool (decide (((l69 v22).length : Int) > 0))))] ?_
                          exact AE_done ⟨v13, v14, v15, (decide (((l69 v22).length : Int) > 0)), v17, v18, v19, v20, v21, v22, v23, v25, v26, v27, v28, v29, rfl, rfl, k7, by omega, h⟩
                        · refine AW_reg ?_
                          refine zm hT 4 [0, 1, 6, 7, 8, 9, 10, 45, 47] [(0, (.sl (l69 v1))), (1, (aI v2)), (6, (aI v13)), (7, (aI v14)), (8, (aI v15)), (9, (.ptr 0 0)), (10, (.ptr 1 0)), (45, (.str v18)), (47, (aI v25))] ?_
                          refine zO (jP Go.Proofs.Try.func81 (F81_ok k7 v18 v25 v46 h12)) ?_
                          refine zm hT 1 [0, 1, 6, 7, 8, 9, 10, 49] [(0, (.sl (l69 v1))), (1, (aI v2)), (6, (aI v13)), (7, (aI v14)), (8, (aI v15)), (9, (.ptr 0 0)), (10, (.ptr 1 0)), (49, (.bool (!v46)))] ?_
                          refine zO (jQ hT h13) ?_
                          refine zm hT 4 [0, 1, 6, 7, 8, 9, 10, 50, 52, 54] [(0, (.sl (l69 v1))), (1, (aI v2)), (6, (aI v13)), (7, (aI v14)), (8, (aI v15)), (9, (.ptr 0 0)), (10, (.ptr 1 0)), (50, (.bool false)), (52, (.str v19)), (54, (aI v26))] ?_
                          refine zO (jP Go.Proofs.Try.func81 (F81_ok k7 v19 v26 v47 h14)) ?_
                          refine zm hT 2 [0, 1, 6, 7, 8, 9, 10, 57] [(0, (.sl (l69 v1))), (1, (aI v2)), (6, (aI v13)), (7, (aI v14)), (8, (aI v15)), (9, (.ptr 0 0)), (10, (.ptr 1 0)), (57, (.bool (!v47)))] ?_
                          refine zO (jQ hT h15) ?_
                          refine zm hT 7 [0, 1, 6, 7, 8, 9, 10, 65] [(0, (.sl (l69 v1))), (1, (aI v2)), (6, (aI v13)), (7, (aI v14)), (8, (aI v15)), (9, (.ptr 0 0)), (10, (.ptr 1 0)), (65, (.bool (((l57 v20).length : Int) != v27)))] ?_
                          refine zO (jQ hT h16) ?_
                          refine zm hT 3 [0, 1, 6, 7, 8, 9, 10, 66, 69] [(0, (.sl (l69 v1))), (1, (aI v2)), (6, (aI v13)), (7, (aI v14)), (8, (aI v15)), (9, (.ptr 0 0)), (10, (.ptr 1 0)), (66, (.bool false)), (69, (.bool (v28 == 0)))] ?_
                          refine zO (jQ hT h17) ?_
                          refine zm hT 6 [0, 1, 6, 7, 8, 9, 10, 76] [(0, (.sl (l69 v1))), (1, (aI v2)), (6, (aI v13)), (7, (aI v14)), (8, (aI v15)), (9, (.ptr 0 0)), (10, (.ptr 1 0)), (76, (.bool (decide (((l69 v21).length : Int) > 0))))] ?_
                          refine zO (jQ hT h18) ?_
                          refine zm hT 3 [0, 1, 6, 7, 8, 9, 77, 80] [(0, (.sl (l69 v1))), (1, (aI v2)), (6, (aI v13)), (7, (aI v14)), (8, (aI v15)), (9, (.ptr 0 0)), (77, (.bool false)), (80, (.bool (v29 == 0)))] ?_
                          refine zO (jQ hT h19) ?_
                          refine ze hT 6 [0, 1, 6, 7, 8, 9, 87] [(0, (.sl (l69 v1))), (1, (aI v2)), (6, (aI v13)), (7, (aI v14)), (8, (aI v15)), (9, (.ptr 0 0)), (87, (.bool false))] ?_
                          refine zK [0, 1, 6, 7, 8, 9, 87] [(0, (.sl (l69 v1))), (1, (aI v2)), (6, (aI v13)), (7, (aI v14)), (8, (aI v15)), (9, (.ptr 0 0)), (87, (.bool false))] ?_
                          exact AE_done ⟨v13, v14, v15, false, v17, v18, v19, v20, v21, v22, v23, v25, v26, v27, v28, v29, rfl, rfl, k7, by omega, h⟩
                    · rcases bif_split h with ⟨h20, h⟩ | ⟨h20, h⟩
                      · refine AW_reg ?_
                        refine zm hT 4 [0, 1, 6, 7, 8, 9, 10, 45, 47] [(0, (.sl (l69 v1))), (1, (aI v2)), (6, (aI v13)), (7, (aI v14)), (8, (aI v15)), (9, (.ptr 0 0)), (10, (.ptr 1 0)), (45, (.str v18)), (47, (aI v25))] ?_
                        refine zO (jP Go.Proofs.Try.func81 (F81_ok k7 v18 v25 v46 h12)) ?_
                        refine zm hT 1 [0, 1, 6, 7, 8, 9, 10, 49] [(0, (.sl (l69 v1))), (1, (aI v2)), (6, (aI v13)), (7, (aI v14)), (8, (aI v15)), (9, (.ptr 0 0)), (10, (.ptr 1 0)), (49, (.bool (!v46)))] ?_
                        refine zO (jQ hT h13) ?_
                        refine zm hT 4 [0, 1, 6, 7, 8, 9, 10, 50, 52, 54] [(0, (.sl (l69 v1))), (1, (aI v2)), (6, (aI v13)), (7, (aI v14)), (8, (aI v15)), (9, (.ptr 0 0)), (10, (.ptr 1 0)), (50, (.bool false)), (52, (.str v19)), (54, (aI v26))] ?_
                        refine zO (jP Go.Proofs.Try.func81 (F81_ok k7 v19 v26 v47 h14)) ?_
                        refine zm hT 2 [0, 1, 6, 7, 8, 9, 10, 57] [(0, (.sl (l69 v1))), (1, (aI v2)), (6, (aI v13)), (7, (aI v14)), (8, (aI v15)), (9, (.ptr 0 0)), (10, (.ptr 1 0)), (57, (.bool (!v47)))] ?_
                        refine zO (jQ hT h15) ?_
                        refine zm hT 7 [0, 1, 6, 7, 8, 9, 10, 65] [(0, (.sl (l69 v1))), (1, (aI v2)), (6, (aI v13)), (7, (aI v14)), (8, (aI v15)), (9, (.ptr 0 0)), (10, (.ptr 1 0)), (65, (.bool (((l57 v20).length : Int) != v27)))] ?_
                        refine zO (jQ hT h16) ?_
                        refine zm hT 3 [0, 1, 6, 7, 8, 9, 10, 66, 69] [(0, (.sl (l69 v1))), (1, (aI v2)), (6, (aI v13)), (7, (aI v14)), (8, (aI v15)), (9, (.ptr 0 0)), (10, (.ptr 1 0)), (66, (.bool false)), (69, (.bool (v28 == 0)))] ?_
                        refine zO (jQ hT h17) ?_
                        refine zm hT 10 [0, 1, 6, 7, 8, 9, 77, 80] [(0, (.sl (l69 v1))), (1, (aI v2)), (6, (aI v13)), (7, (aI v14)), (8, (aI v15)), (9, (.ptr 0 0)), (77, (.bool false)), (80, (.bool (v29 == 0)))] ?_
                        refine zO (jQ hT h20) ?_
                        refine ze hT 6 [0, 1, 6, 7, 8, 9, 87] [(0, (.sl (l69 v1))), (1, (aI v2)), (6, (aI v13)), (7, (aI v14)), (8, (aI v15)), (9, (.ptr 0 0)), (87, (.bool (decide (((l69 v22).length : Int) > 0))))] ?_
                        refine zK [0, 1, 6, 7, 8, 9, 87] [(0, (.sl (l69 v1))), (1, (aI v2)), (6, (aI v13)), (7, (aI v14)), (8, (aI v15)), (9, (.ptr 0 0)), (87, (.bool (decide (((l69 v22).length : Int) > 0))))] ?_
                        exact AE_done ⟨v13, v14, v15, (decide (((l69 v22).length : Int) > 0)), v17, v18, v19, v20, v21, v22, v23, v25, v26, v27, v28, v29, rfl, rfl, k7, by omega, h⟩
                      · refine AW_reg ?_
                        refine zm hT 4 [0, 1, 6, 7, 8, 9, 10, 45, 47] [(0, (.sl (l69 v1))), (1, (aI v2)), (6, (aI v13)), (7, (aI v14)), (8, (aI v15)), (9, (.ptr 0 0)), (10, (.ptr 1 0)), (45, (.str v18)), (47, (aI v25))] ?_
                        refine zO (jP Go.Proofs.Try.func81 (F81_ok k7 v18 v25 v46 h12)) ?_
                        refine zm hT 1 [0, 1, 6, 7, 8, 9, 10, 49] [(0, (.sl (l69 v1))), (1, (aI v2)), (6, (aI v13)), (7, (aI v14)), (8, (aI v15)), (9, (.ptr 0 0)), (10, (.ptr 1 0)), (49, (.bool (!v46)))] ?_
                        refine zO (jQ hT h13) ?_
                        refine zm hT 4 [0, 1, 6, 7, 8, 9, 10, 50, 52, 54] [(0, (.sl (l69 v1))), (1, (aI v2)), (6, (aI v13)), (7, (aI v14)), (8, (aI v15)), (9, (.ptr 0 0)), (10, (.ptr 1 0)), (50, (.bool false)), (52, (.str v19)), (54, (aI v26))] ?_
                        refine zO (jP Go.Proofs.Try.func81 (F81_ok k7 v19 v26 v47 h14)) ?_
                        refine zm hT 2 [0, 1, 6, 7, 8, 9, 10, 57] [(0, (.sl (l69 v1))), (1, (aI v2)), (6, (aI v13)), (7, (aI v14)), (8, (aI v15)), (9, (.ptr 0 0)), (10, (.ptr 1 0)), (57, (.bool (!v47)))] ?_
                        refine zO (jQ hT h15) ?_
                        refine zm hT 7 [0, 1, 6, 7, 8, 9, 10, 65] [(0, (.sl (l69 v1))), (1, (aI v2)), (6, (aI v13)), (7, (aI v14)), (8, (aI v15)), (9, (.ptr 0 0)), (10, (.ptr 1 0)), (65, (.bool (((l57 v20).length : Int) != v27)))] ?_
                        refine zO (jQ hT h16) ?_
                        refine zm hT 3 [0, 1, 6, 7, 8, 9, 10, 66, 69] [(0, (.sl (l69 v1))), (1, (aI v2)), (6, (aI v13)), (7, (aI v14)), (8, (aI v15)), (9, (.ptr 0 0)), (10, (.ptr 1 0)), (66, (.bool false)), (69, (.bool (v28 == 0)))] ?_
                        refine zO (jQ hT h17) ?_
                        refine zm hT 10 [0, 1, 6, 7, 8, 9, 77, 80] [(0, (.sl (l69 v1))), (1, (aI v2)), (6, (aI v13)), (7, (aI v14)), (8, (aI v15)), (9, (.ptr 0 0)), (77, (.bool false)), (80, (.bool (v29 == 0)))] ?_
                        refine zO (jQ hT h20) ?_
                        refine ze hT 6 [0, 1, 6, 7, 8, 9, 87] [(0, (.sl (l69 v1))), (1, (aI v2)), (6, (aI v13)), (7, (aI v14)), (8, (aI v15)), (9, (.ptr 0 0)), (87, (.bool false))] ?_
                        refine zK [0, 1, 6, 7, 8, 9, 87] [(0, (.sl (l69 v1))), (1, (aI v2)), (6, (aI v13)), (7, (aI v14)), (8, (aI v15)), (9, (.ptr 0 0)), (87, (.bool false))] ?_
                        exact AE_done ⟨v13, v14, v15, false, v17, v18, v19, v20, v21, v22, v23, v25, v26, v27, v28, v29, rfl, rfl, k7, by omega, h⟩
            · rintro _ _ ⟨v30, v31, v32, v33, v34, v35, v36, v37, v38, v39, v40, v41, v42, v43, v44, v45, rfl, rfl, n, hn, h⟩
              obtain _ | k21 := n
              · rw [F39_j2] at h; cases h
              have h22 : k21 < (k + 1) := by omega
              rw [F39_j2] at h
              rcases bif_split h with ⟨h23, h⟩ | ⟨h23, h⟩
              · refine zT h23 ?_
                refine zs hT [4, 5] [(4, (aI (-1))), (5, (aI 0))] ?_
                refine AE_ret ?_
                refine AE_seqR ?_
                refine AE_blkR ?_
                refine AE_seqR ?_
                refine AE_seqR ?_
                refine AE_blkR ?_
                refine AE_seqR ?_
                refine zK [4, 5] [(4, (aI (-1))), (5, (aI 0))] ?_
                simp only [Option.some.injEq, Prod.mk.injEq] at h
                obtain ⟨rfl, rfl⟩ := h
                exact zEnd
              · refine zN h23 ?_
                refine AE_skip ?_
                refine AE_seqN ?_
                refine AW_seq ?_
                obtain ⟨⟨v48, v49⟩, h24, h⟩ := bsm h
                try dsimp only at h
                refine AW_reg ?_
                refine zm hT 4 [0, 1, 6, 7, 8, 9, 90, 92] [(0, (.sl (l69 v1))), (1, (aI v2)), (6, (aI v30)), (7, (aI v31)), (8, (aI v32)), (9, (.ptr 0 0)), (90, (.sl (l69 v38))), (92, (aI (IntKind.wrap .i64 (v2 - 1))))] ?_
                refine zO (jP Go.Proofs.Try.func39 (ih_F39 k21 h22 v38 (IntKind.wrap .i64 (v2 - 1)) v48 v49 h24)) ?_
                refine ze hT 5 [0, 1, 6, 7, 8, 9, 11, 12] [(0, (.sl (l69 v1))), (1, (aI v2)), (6, (aI v30)), (7, (aI v31)), (8, (aI v32)), (9, (.ptr 0 0)), (11, (aI v48)), (12, (aI v49))] ?_
                refine AE_seqN ?_
                refine AW_seq ?_
                obtain ⟨⟨v50, v51⟩, h25, h⟩ := bsm h
                try dsimp only at h
                refine AW_reg ?_
                refine zm hT 4 [0, 1, 6, 7, 8, 9, 11, 12, 98, 100] [(0, (.sl (l69 v1))), (1, (aI v2)), (6, (aI v30)), (7, (aI v31)), (8, (aI v32)), (9, (.ptr 0 0)), (11, (aI v48)), (12, (aI v49)), (98, (.sl (l69 v39))), (100, (aI (IntKind.wrap .i64 (v2 - 1))))] ?_
                refine zO (jP Go.Proofs.Try.func39 (ih_F39 k21 h22 v39 (IntKind.wrap .i64 (v2 - 1)) v50 v51 h25)) ?_
                refine ze hT 5 [0, 1, 6, 7, 8, 9, 11, 12, 13, 14] [(0, (.sl (l69 v1))), (1, (aI v2)), (6, (aI v30)), (7, (aI v31)), (8, (aI v32)), (9, (.ptr 0 0)), (11, (aI v48)), (12, (aI v49)), (13, (aI v50)), (14, (aI v51))] ?_
                refine AE_seqN ?_
                refine AW_seq ?_
                refine AW_join (fun env L => ∃ (v52 : Int) (v53 : Int) (v54 : Int) (v55 : Int) (v56 : Int) (v57 : Int) (v58 : Int) (v59 : Bool) (v60 : Int) (v61 : ByteArray) (v62 : ByteArray) (v63 : (List T57)) (v64 : (List T69)) (v65 : (List T69)) (v66 : Int) (v67 : Int) (v68 : Int) (v69 : Int) (v70 : Int) (v71 : Int), env = [(0, (.sl (l69 v1))), (1, (aI v2)), (6, (aI v52)), (7, (aI v53)), (8, (aI v54)), (9, (.ptr 0 0)), (11, (aI v55)), (12, (aI v56)), (13, (aI v57)), (14, (aI v58)), (109, (.bool v59))] ∧ L = [.cells [(aI v60), (.str v61), (.str v62), (.sl (l57 v63)), (.sl (l69 v64)), (.sl (l69 v65)), (aI v66)], .cells [(aI v67), (aI v68), (aI v69), (aI v70), (aI v71)]] ∧ ∃ n, n ≤ k21 ∧ F39_j3 n v1 v2 v52 v53 v54 v55 v56 v57 v58 v59 v63 = some (r1, r2)) ?_ ?_
                · rcases bif_split h with ⟨h26, h⟩ | ⟨h26, h⟩
                  · refine AW_reg ?_
                    refine zm hT 2 [0, 1, 6, 7, 8, 9, 11, 12, 13, 14, 105] [(0, (.sl (l69 v1))), (1, (aI v2)), (6, (aI v30)), (7, (aI v31)), (8, (aI v32)), (9, (.ptr 0 0)), (11, (aI v48)), (12, (aI v49)), (13, (aI v50)), (14, (aI v51)), (105, (.bool (decide (v48 < 0))))] ?_
                    refine zO (jQ hT h26) ?_
                    refine ze hT 3 [0, 1, 6, 7, 8, 9, 11, 12, 13, 14, 109] [(0, (.sl (l69 v1))), (1, (aI v2)), (6, (aI v30)), (7, (aI v31)), (8, (aI v32)), (9, (.ptr 0 0)), (11, (aI v48)), (12, (aI v49)), (13, (aI v50)), (14, (aI v51)), (109, (.bool true))] ?_
                    refine zK [0, 1, 6, 7, 8, 9, 11, 12, 13, 14, 109] [(0, (.sl (l69 v1))), (1, (aI v2)), (6, (aI v30)), (7, (aI v31)), (8, (aI v32)), (9, (.ptr 0 0)), (11, (aI v48)), (12, (aI v49)), (13, (aI v50)), (14, (aI v51)), (109, (.bool true))] ?_
                    exact AE_done ⟨v30, v31, v32, v48, v49, v50, v51, true, v34, v35, v36, v37, v38, v39, v40, v41, v42, v43, v44, v45, rfl, rfl, k21, by omega, h⟩
                  · refine AW_reg ?_
                    refine zm hT 2 [0, 1, 6, 7, 8, 9, 11, 12, 13, 14, 105] [(0, (.sl (l69 v1))), (1, (aI v2)), (6, (aI v30)), (7, (aI v31)), (8, (aI v32)), (9, (.ptr 0 0)), (11, (aI v48)), (12, (aI v49)), (13, (aI v50)), (14, (aI v51)), (105, (.bool (decide (v48 < 0))))] ?_
                    refine zO (jQ hT h26) ?_
                    refine ze hT 3 [0, 1, 6, 7, 8, 9, 11, 12, 13, 14, 109] [(0, (.sl (l69 v1))), (1, (aI v2)), (6, (aI v30)), (7, (aI v31)), (8, (aI v32)), (9, (.ptr 0 0)), (11, (aI v48)), (12, (aI v49)), (13, (aI v50)), (14, (aI v51)), (109, (.bool (decide (v50 < 0))))] ?_
                    refine zK [0, 1, 6, 7, 8, 9, 11, 12, 13, 14, 109] [(0, (.sl (l69 v1))), (1, (aI v2)), (6, (aI v30)), (7, (aI v31)), (8, (aI v32)), (9, (.ptr 0 0)), (11, (aI v48)), (12, (aI v49)), (13, (aI v50)), (14, (aI v51)), (109, (.bool (decide (v50 < 0))))] ?_
                    exact AE_done ⟨v30, v31, v32, v48, v49, v50, v51, (decide (v50 < 0)), v34, v35, v36, v37, v38, v39, v40, v41, v42, v43, v44, v45, rfl, rfl, k21, by omega, h⟩
                · rintro _ _ ⟨v52, v53, v54, v55, v56, v57, v58, v59, v60, v61, v62, v63, v64, v65, v66, v67, v68, v69, v70, v71, rfl, rfl, n, hn, h⟩
                  obtain _ | k27 := n
                  · rw [F39_j3] at h; cases h
                  have h28 : k27 < (k + 1) := by omega
                  rw [F39_j3] at h
                  rcases bif_split h with ⟨h29, h⟩ | ⟨h29, h⟩
                  · refine zT h29 ?_
                    refine zs hT [4, 5] [(4, (aI (-1))), (5, (aI 0))] ?_
                    refine AE_ret ?_
                    refine AE_seqR ?_
                    refine AE_blkR ?_
                    refine AE_seqR ?_
                    refine AE_seqR ?_
                    refine AE_blkR ?_
                    refine AE_seqR ?_
                    refine zK [4, 5] [(4, (aI (-1))), (5, (aI 0))] ?_
                    simp only [Option.some.injEq, Prod.mk.injEq] at h
                    obtain ⟨rfl, rfl⟩ := h
                    exact zEnd
                  · refine zN h29 ?_
                    refine AE_skip ?_
                    refine AE_seqN ?_
                    refine AW_seq ?_
                    refine zs hT [0, 1, 6, 7, 8, 9, 11, 12, 13, 14, 15] [(0, (.sl (l69 v1))), (1, (aI v2)), (6, (aI v52)), (7, (aI v53)), (8, (aI v54)), (9, (.ptr 0 0)), (11, (aI v55)), (12, (aI v56)), (13, (aI v57)), (14, (aI v58)), (15, (aI 0))] ?_
                    refine AW_block ?_
                    refine zKw [0, 1, 6, 7, 8, 9, 11, 12, 13, 14, 15] [(0, (.sl (l69 v1))), (1, (aI v2)), (6, (aI v52)), (7, (aI v53)), (8, (aI v54)), (9, (.ptr 0 0)), (11, (aI v55)), (12, (aI v56)), (13, (aI v57)), (14, (aI v58)), (15, (aI 0))] ?_
                    refine AW_loop (fun n env L => n ≤ k27 ∧ ∃ (v72 : Int) (v73 : Int), env = [(0, (.sl (l69 v1))), (1, (aI v2)), (6, (aI v52)), (7, (aI v72)), (8, (aI v54)), (9, (.ptr 0 0)), (11, (aI v55)), (12, (aI v56)), (13, (aI v57)), (14, (aI v58)), (15, (aI v73))] ∧ L = [.cells [(aI v60), (.str v61), (.str v62), (.sl (l57 v63)), (.sl (l69 v64)), (.sl (l69 v65)), (aI v66)], .cells [(aI v67), (aI v68), (aI v69), (aI v70), (aI v71)]] ∧ F39_l4 n v1 v2 v52 v54 v55 v56 v57 v58 v63 v72 v73 = some (r1, r2)) k27 ⟨Nat.le_refl _, v53, 0, rfl, rfl, h⟩ ?_
                    rintro n _ _ ⟨hn, v72, v73, rfl, rfl, h⟩
                    cases n with
                    | zero => rw [F39_l4] at h; cases h
                    | succ k30 =>
                      have h31 : k30 < (k + 1) := by omega
                      rw [F39_l4] at h
                      refine AW_seq ?_
                      refine zs hT [0, 1, 6, 7, 8, 9, 11, 12, 13, 14, 15, 114] [(0, (.sl (l69 v1))), (1, (aI v2)), (6, (aI v52)), (7, (aI v72)), (8, (aI v54)), (9, (.ptr 0 0)), (11, (aI v55)), (12, (aI v56)), (13, (aI v57)), (14, (aI v58)), (15, (aI v73)), (114, (.bool (decide (v73 < ((l57 v63).length : Int)))))] ?_
                      rcases bif_split h with ⟨h32, h⟩ | ⟨h32, h⟩
                      · refine zT h32 ?_
                        refine AE_skip ?_
                        refine AE_seqN ?_
                        refine AW_seq ?_
                        refine AW_block ?_
                        refine AW_seq ?_
                        obtain ⟨⟨v74, v75, v76, v77, v78, v79⟩, h33, h⟩ := bsm h
                        try dsimp only at h
                        obtain ⟨v80, h34, h⟩ := bsm h
                        try dsimp only at h
                        refine AW_reg ?_
                        refine zm hT 3 [0, 1, 6, 7, 8, 9, 11, 12, 13, 14, 15, 118, 119] [(0, (.sl (l69 v1))), (1, (aI v2)), (6, (aI v52)), (7, (aI v72)), (8, (aI v54)), (9, (.ptr 0 0)), (11, (aI v55)), (12, (aI v56)), (13, (aI v57)), (14, (aI v58)), (15, (aI v73)), (118, (.sl (l57 v63))), (119, (aI v73))] ?_
                        refine zO (jX hT 6 (i57 h33)) ?_
                        refine zm hT 1 [0, 1, 6, 7, 8, 9, 11, 12, 13, 14, 15, 121] [(0, (.sl (l69 v1))), (1, (aI v2)), (6, (aI v52)), (7, (aI v72)), (8, (aI v54)), (9, (.ptr 0 0)), (11, (aI v55)), (12, (aI v56)), (13, (aI v57)), (14, (aI v58)), (15, (aI v73)), (121, (.agg [(aI v74), (.str v75), (aI v76), (.str v77), (.sl (l57 v78)), (aI v79)]))] ?_
                        refine zO (jP Go.Proofs.Try.func82 (F82_ok k30 v74 v75 v76 v77 v78 v79 12 v80 h34)) ?_
                        refine ze hT 1 [0, 1, 6, 7, 8, 9, 11, 12, 13, 14, 15, 16] [(0, (.sl (l69 v1))), (1, (aI v2)), (6, (aI v52)), (7, (aI v72)), (8, (aI v54)), (9, (.ptr 0 0)), (11, (aI v55)), (12, (aI v56)), (13, (aI v57)), (14, (aI v58)), (15, (aI v73)), (16, (aI v80))] ?_
                        refine AE_seqN ?_
                        refine AW_seq ?_
                        refine zs hT [0, 1, 6, 7, 8, 9, 11, 12, 13, 14, 15, 16, 124] [(0, (.sl (l69 v1))), (1, (aI v2)), (6, (aI v52)), (7, (aI v72)), (8, (aI v54)), (9, (.ptr 0 0)), (11, (aI v55)), (12, (aI v56)), (13, (aI v57)), (14, (aI v58)), (15, (aI v73)), (16, (aI v80)), (124, (.bool (decide (v80 < 0))))] ?_
                        rcases bif_split h with ⟨h35, h⟩ | ⟨h35, h⟩
                        · refine zT h35 ?_
                          refine zs hT [4, 5] [(4, (aI (-1))), (5, (aI 0))] ?_
                          refine AE_ret ?_
                          refine AE_seqR ?_
                          refine AE_blkR ?_
                          refine AE_seqR ?_
                          refine AE_seqR ?_
                          refine AE_blkR ?_
                          refine AE_seqR ?_
                          refine AE_blkR ?_
                          refine AE_seqR ?_
                          refine AE_seqR ?_
                          refine AE_blkR ?_
                          refine AE_seqR ?_
                          refine zK [4, 5] [(4, (aI (-1))), (5, (aI 0))] ?_
                          simp only [Option.some.injEq, Prod.mk.injEq] at h
                          obtain ⟨rfl, rfl⟩ := h
                          exact zEnd
                        · refine zN h35 ?_
                          refine AE_skip ?_
                          refine AE_seqN ?_
                          refine zr hT [0, 1, 6, 7, 8, 9, 11, 12, 13, 14, 15] [(0, (.sl (l69 v1))), (1, (aI v2)), (6, (aI v52)), (7, (aI (IntKind.wrap .i64 (v72 + v80)))), (8, (aI v54)), (9, (.ptr 0 0)), (11, (aI v55)), (12, (aI v56)), (13, (aI v57)), (14, (aI v58)), (15, (aI v73))] ?_
                          refine AE_blkN ?_
                          refine AE_seqN ?_
                          refine zr hT [0, 1, 6, 7, 8, 9, 11, 12, 13, 14, 15] [(0, (.sl (l69 v1))), (1, (aI v2)), (6, (aI v52)), (7, (aI (IntKind.wrap .i64 (v72 + v80)))), (8, (aI v54)), (9, (.ptr 0 0)), (11, (aI v55)), (12, (aI v56)), (13, (aI v57)), (14, (aI v58)), (15, (aI (IntKind.wrap .i64 (v73 + 1))))] ?_
                          refine zK [0, 1, 6, 7, 8, 9, 11, 12, 13, 14, 15] [(0, (.sl (l69 v1))), (1, (aI v2)), (6, (aI v52)), (7, (aI (IntKind.wrap .i64 (v72 + v80)))), (8, (aI v54)), (9, (.ptr 0 0)), (11, (aI v55)), (12, (aI v56)), (13, (aI v57)), (14, (aI v58)), (15, (aI (IntKind.wrap .i64 (v73 + 1))))] ?_
                          exact AE_done ⟨k30, by omega, by omega, (IntKind.wrap .i64 (v72 + v80)), (IntKind.wrap .i64 (v73 + 1)), rfl, rfl, h⟩
                      · refine zN h32 ?_
                        refine AE_exit ?_
                        refine AE_seqX ?_
                        refine AE_seqX ?_
                        refine AE_blkH ?_
                        refine AE_seqN ?_
                        refine zs hT [0, 1, 6, 7, 8, 12, 14] [(0, (.sl (l69 v1))), (1, (aI v2)), (6, (aI (IntKind.wrap .i64 ((IntKind.wrap .i64 ((IntKind.wrap .i64 (v52 + 1)) + v55)) + v57)))), (7, (aI v72)), (8, (aI v54)), (12, (aI v56)), (14, (aI v58))] ?_
                        refine zs hT [0, 1, 6, 7, 8] [(0, (.sl (l69 v1))), (1, (aI v2)), (6, (aI (IntKind.wrap .i64 ((IntKind.wrap .i64 ((IntKind.wrap .i64 (v52 + 1)) + v55)) + v57)))), (7, (aI (IntKind.wrap .i64 ((IntKind.wrap .i64 (v72 + v56)) + v58)))), (8, (aI v54))] ?_
                        refine AW_join (fun env L => ∃ (v81 : Int) (v82 : Int) (v83 : Int) (v84 : Bool) (v85 : Int) (v86 : ByteArray) (v87 : ByteArray) (v88 : (List T57)) (v89 : (List T69)) (v90 : (List T69)) (v91 : Int) (v92 : Int) (v93 : Int) (v94 : Int) (v95 : Int) (v96 : Int), env = [(0, (.sl (l69 v1))), (1, (aI v2)), (6, (aI v81)), (7, (aI v82)), (8, (aI v83)), (144, (.bool v84))] ∧ L = [.cells [(aI v85), (.str v86), (.str v87), (.sl (l57 v88)), (.sl (l69 v89)), (.sl (l69 v90)), (aI v91)], .cells [(aI v92), (aI v93), (aI v94), (aI v95), (aI v96)]] ∧ ∃ n, n ≤ k30 ∧ F39_j5 n v1 v2 v81 v82 v83 v84 = some (r1, r2)) ?_ ?_
                        · rcases bif_split h with ⟨h36, h⟩ | ⟨h36, h⟩
                          · refine AW_reg ?_
                            refine zm hT 2 [0, 1, 6, 7, 8, 140] [(0, (.sl (l69 v1))), (1, (aI v2)), (6, (aI (IntKind.wrap .i64 ((IntKind.wrap .i64 ((IntKind.wrap .i64 (v52 + 1)) + v55)) + v57)))), (7, (aI (IntKind.wrap .i64 ((IntKind.wrap .i64 (v72 + v56)) + v58)))), (8, (aI v54)), (140, (.bool (decide ((IntKind.wrap .i64 ((IntKind.wrap .i64 ((IntKind.wrap .i64 (v52 + 1)) + v55)) + v57)) > 200))))] ?_
                            refine zO (jQ hT h36) ?_
                            refine ze hT 3 [0, 1, 6, 7, 8, 144] [(0, (.sl (l69 v1))), (1, (aI v2)), (6, (aI (IntKind.wrap .i64 ((IntKind.wrap .i64 ((IntKind.wrap .i64 (v52 + 1)) + v55)) + v57)))), (7, (aI (IntKind.wrap .i64 ((IntKind.wrap .i64 (v72 + v56)) + v58)))), (8, (aI v54)), (144, (.bool true))] ?_
                            refine zK [0, 1, 6, 7, 8, 144] [(0, (.sl (l69 v1))), (1, (aI v2)), (6, (aI (IntKind.wrap .i64 ((IntKind.wrap .i64 ((IntKind.wrap .i64 (v52 + 1)) + v55)) + v57)))), (7, (aI (IntKind.wrap .i64 ((IntKind.wrap .i64 (v72 + v56)) + v58)))), (8, (aI v54)), (144, (.bool true))] ?_
                            exact AE_done ⟨(IntKind.wrap .i64 ((IntKind.wrap .i64 ((IntKind.wrap .i64 (v52 + 1)) + v55)) + v57)), (IntKind.wrap .i64 ((IntKind.wrap .i64 (v72 + v56)) + v58)), v54, true, v60, v61, v62, v63, v64, v65, v66, v67, v68, v69, v70, v71, rfl, rfl, k30, by omega, h⟩
                          · refine AW_reg ?_
                            refine zm hT 2 [0, 1, 6, 7, 8, 140] [(0, (.sl (l69 v1))), (1, (aI v2)), (6, (aI (IntKind.wrap .i64 ((IntKind.wrap .i64 ((IntKind.wrap .i64 (v52 + 1)) + v55)) + v57)))), (7, (aI (IntKind.wrap .i64 ((IntKind.wrap .i64 (v72 + v56)) + v58)))), (8, (aI v54)), (140, (.bool (decide ((IntKind.wrap .i64 ((IntKind.wrap .i64 ((IntKind.wrap .i64 (v52 + 1)) + v55)) + v57)) > 200))))] ?_
                            refine zO (jQ hT h36) ?_
                            refine ze hT 3 [0, 1, 6, 7, 8, 144] [(0, (.sl (l69 v1))), (1, (aI v2)), (6, (aI (IntKind.wrap .i64 ((IntKind.wrap .i64 ((IntKind.wrap .i64 (v52 + 1)) + v55)) + v57)))), (7, (aI (IntKind.wrap .i64 ((IntKind.wrap .i64 (v72 + v56)) + v58)))), (8, (aI v54)), (144, (.bool (decide ((IntKind.wrap .i64 ((IntKind.wrap .i64 (v72 + v56)) + v58)) > 8192))))] ?_
                            refine zK [0, 1, 6, 7, 8, 144] [(0, (.sl (l69 v1))), (1, (aI v2)), (6, (aI (IntKind.wrap .i64 ((IntKind.wrap .i64 ((IntKind.wrap .i64 (v52 + 1)) + v55)) + v57)))), (7, (aI (IntKind.wrap .i64 ((IntKind.wrap .i64 (v72 + v56)) + v58)))), (8, (aI v54)), (144, (.bool (decide ((IntKind.wrap .i64 ((IntKind.wrap .i64 (v72 + v56)) + v58)) > 8192))))] ?_
                            exact AE_done ⟨(IntKind.wrap .i64 ((IntKind.wrap .i64 ((IntKind.wrap .i64 (v52 + 1)) + v55)) + v57)), (IntKind.wrap .i64 ((IntKind.wrap .i64 (v72 + v56)) + v58)), v54, (decide ((IntKind.wrap .i64 ((IntKind.wrap .i64 (v72 + v56)) + v58)) > 8192)), v60, v61, v62, v63, v64, v65, v66, v67, v68, v69, v70, v71, rfl, rfl, k30, by omega, h⟩
                        · rintro _ _ ⟨v81, v82, v83, v84, v85, v86, v87, v88, v89, v90, v91, v92, v93, v94, v95, v96, rfl, rfl, n, hn, h⟩
                          obtain _ | k37 := n
                          · rw [F39_j5] at h; cases h
                          have h38 : k37 < (k + 1) := by omega
                          rw [F39_j5] at h
                          rcases bif_split h with ⟨h39, h⟩ | ⟨h39, h⟩
                          · refine zT h39 ?_
                            refine zs hT [4, 5] [(4, (aI (-1))), (5, (aI 0))] ?_
                            refine AE_ret ?_
                            refine AE_blkR ?_
                            refine AE_seqR ?_
                            refine AE_seqR ?_
                            refine AE_blkR ?_
                            refine AE_seqR ?_
                            refine zK [4, 5] [(4, (aI (-1))), (5, (aI 0))] ?_
                            simp only [Option.some.injEq, Prod.mk.injEq] at h
                            obtain ⟨rfl, rfl⟩ := h
                            exact zEnd
                          · refine zN h39 ?_
                            refine AE_skip ?_
                            refine AE_blkN ?_
                            refine AE_seqN ?_
                            refine zr hT [0, 1, 6, 7, 8] [(0, (.sl (l69 v1))), (1, (aI v2)), (6, (aI v81)), (7, (aI v82)), (8, (aI (IntKind.wrap .i64 (v83 + 1))))] ?_
                            refine zK [0, 1, 6, 7, 8] [(0, (.sl (l69 v1))), (1, (aI v2)), (6, (aI v81)), (7, (aI v82)), (8, (aI (IntKind.wrap .i64 (v83 + 1))))] ?_
                            refine zD 0 [] ?_
                            exact AE_done ⟨k37, by omega, by omega, v81, v82, (IntKind.wrap .i64 (v83 + 1)), rfl, rfl, h⟩
      · refine zN h3 ?_
        refine AE_exit ?_
        refine AE_seqX ?_
        refine AE_seqX ?_
        refine AE_blkH ?_
        refine AE_seqN ?_
        refine zs hT [4, 5] [(4, (aI v3)), (5, (aI v4))] ?_
        refine AE_ret ?_
        refine zK [4, 5] [(4, (aI v3)), (5, (aI v4))] ?_
        simp only [Option.some.injEq, Prod.mk.injEq] at h
        obtain ⟨rfl, rfl⟩ := h
        exact zEnd

theorem F39_all (K0 : Nat) : (∀ (v1 : (List T69)) (v2 : Int) (r1 : Int) (r2 : Int), F39 K0 v1 v2 = some (r1, r2) → Fn prog 39 [(.sl (l69 v1)), (aI v2)] [] (.tup [(aI r1), (aI r2)]) []) := by
  induction K0 using Nat.strongRecOn with
  | ind K0 ih => exact F39_step K0 (fun k hk => (ih k hk))

theorem F39_ok (K0 : Nat) : ∀ (v1 : (List T69)) (v2 : Int) (r1 : Int) (r2 : Int), F39 K0 v1 v2 = some (r1, r2) → Fn prog 39 [(.sl (l69 v1)), (aI v2)] [] (.tup [(aI r1), (aI r2)]) [] := (F39_all K0)

def F13_j5 (k34 : Nat) (v17 : Int) (v18 : Int) (v35 : Bool) : Option (Int × Int) :=
  (bif v35 then
    some ((-1), 0)
  else
    some (v17, v18))

mutual
def F13_j4 : Nat → (List T34) → Int → Int → Int → Int → Int → Bool → Option (Int × Int)
  | 0, _, _, _, _, _, _, _ => none
  | k30 + 1, v3, v25, v26, v27, v28, v29, v30 =>
    (bif v30 then
      some ((-1), 0)
    else
      F13_l3 k30 v3 (IntKind.wrap .i64 (v25 + v28)) (IntKind.wrap .i64 (v26 + v29)) (IntKind.wrap .i64 (v27 + 1)))
def F13_l3 : Nat → (List T34) → Int → Int → Int → Option (Int × Int)
  | 0, _, _, _, _ => none
  | k22 + 1, v3, v17, v18, v19 =>
    (bif (decide (v19 < ((l34 v3).length : Int))) then
      ((idx v3 v19).bind fun ⟨v20, v21, v22⟩ =>
        ((F39 k22 v21 12).bind fun ⟨v23, v24⟩ =>
          (bif (decide (v23 < 0)) then
            F13_j4 k22 v3 v17 v18 v19 v23 v24 true
          else
            ((idx v3 v19).bind fun ⟨v31, v32, v33⟩ =>
              ((F38 k22 v31).bind fun v34 =>
                F13_j4 k22 v3 v17 v18 v19 v23 v24 (!v34))))))
    else
      (bif (decide (v17 > 200)) then
        F13_j5 k22 v17 v18 true
      else
        F13_j5 k22 v17 v18 (decide (v18 > 8192))))
end

mutual
def F13_j2 : Nat → (List T76) → (List T34) → Int → Bool → Option (Int × Int)
  | 0, _, _, _, _ => none
  | k19 + 1, v2, v3, v10, v11 =>
    (bif v11 then
      some ((-1), 0)
    else
      F13_l1 k19 v2 v3 (IntKind.wrap .i64 (v10 + 1)))
def F13_l1 : Nat → (List T76) → (List T34) → Int → Option (Int × Int)
  | 0, _, _, _ => none
  | k8 + 1, v2, v3, v5 =>
    (bif (decide (v5 < ((l76 v2).length : Int))) then
      ((idx v2 v5).bind fun ⟨v6, v7, v8, v9⟩ =>
        (bif (decide (v6 < 1)) then
          F13_j2 k8 v2 v3 v5 true
        else
          (bif (decide (v6 > 4)) then
            F13_j2 k8 v2 v3 v5 true
          else
            ((F38 k8 v7).bind fun v16 =>
              (bif (!v16) then
                F13_j2 k8 v2 v3 v5 true
              else
                (bif (decide (v8 < 0)) then
                  F13_j2 k8 v2 v3 v5 true
                else
                  (bif (decide (v8 > 65535)) then
                    F13_j2 k8 v2 v3 v5 true
                  else
                    (bif (v6 == 3) then
                      F13_j2 k8 v2 v3 v5 (v8 != 0)
                    else
                      F13_j2 k8 v2 v3 v5 false))))))))
    else
      F13_l3 k8 v3 0 0 0)
end

def F13_j0 (k5 : Nat) (v2 : (List T76)) (v3 : (List T34)) (v4 : Bool) : Option (Int × Int) :=
  (bif v4 then
    some ((-1), 0)
  else
    F13_l1 k5 v2 v3 0)

def F13 (k : Nat) (v1 : Int) (v2 : (List T76)) (v3 : (List T34)) : Option (Int × Int) :=
  (bif (decide (v1 < 0)) then
    F13_j0 k v2 v3 true
  else
    (bif (decide (v1 > 65535)) then
      F13_j0 k v2 v3 true
    else
      (bif (decide (((l76 v2).length : Int) > 12)) then
        F13_j0 k v2 v3 true
      else
        (bif (decide (((l34 v3).length : Int) < 1)) then
          F13_j0 k v2 v3 true
        else
          F13_j0 k v2 v3 (decide (((l34 v3).length : Int) > 6))))))

theorem F13_ok (k : Nat) : ∀ (v1 : Int) (v2 : (List T76)) (v3 : (List T34)) (r1 : Int) (r2 : Int), F13 k v1 v2 v3 = some (r1, r2) → Fn prog 13 [(.agg [(aI v1), (.sl (l76 v2)), (.sl (l34 v3))])] [] (.tup [(aI r1), (aI r2)]) [] := by
  intro v1 v2 v3 r1 r2 h
  rw [F13] at h
  refine Fn_bodyK hT Go.Proofs.Try.func13 (c := Go.Proofs.Try.f13.body.getD .skip) (by kernel_rfl) (by kernel_rfl) (by kernel_rfl) ?_
  refine zS hT [1] [(1, (.ptr 0 0))] [.cells [(aI v1), (.sl (l76 v2)), (.sl (l34 v3))]] ?_
  refine AW_seq ?_
  refine AW_join (fun env L => ∃ (v4 : Bool), env = [(1, (.ptr 0 0)), (36, (.bool v4))] ∧ L = [.cells [(aI v1), (.sl (l76 v2)), (.sl (l34 v3))]] ∧ ∃ n, n ≤ k ∧ F13_j0 n v2 v3 v4 = some (r1, r2)) ?_ ?_
  · rcases bif_split h with ⟨h1, h⟩ | ⟨h1, h⟩
    · refine AW_reg ?_
      refine zm hT 3 [1, 13] [(1, (.ptr 0 0)), (13, (.bool (decide (v1 < 0))))] ?_
      refine zO (jQ hT h1) ?_
      refine ze hT 22 [1, 36] [(1, (.ptr 0 0)), (36, (.bool true))] ?_
      refine zK [1, 36] [(1, (.ptr 0 0)), (36, (.bool true))] ?_
      exact AE_done ⟨true, rfl, rfl, k, by omega, h⟩
    · rcases bif_split h with ⟨h2, h⟩ | ⟨h2, h⟩
      · refine AW_reg ?_
        refine zm hT 3 [1, 13] [(1, (.ptr 0 0)), (13, (.bool (decide (v1 < 0))))] ?_
        refine zO (jQ hT h1) ?_
        refine zm hT 4 [1, 18] [(1, (.ptr 0 0)), (18, (.bool (decide (v1 > 65535))))] ?_
        refine zO (jQ hT h2) ?_
        refine ze hT 17 [1, 36] [(1, (.ptr 0 0)), (36, (.bool true))] ?_
        refine zK [1, 36] [(1, (.ptr 0 0)), (36, (.bool true))] ?_
        exact AE_done ⟨true, rfl, rfl, k, by omega, h⟩
      · rcases bif_split h with ⟨h3, h⟩ | ⟨h3, h⟩
        · refine AW_reg ?_
          refine zm hT 3 [1, 13] [(1, (.ptr 0 0)), (13, (.bool (decide (v1 < 0))))] ?_
          refine zO (jQ hT h1) ?_
          refine zm hT 4 [1, 18] [(1, (.ptr 0 0)), (18, (.bool (decide (v1 > 65535))))] ?_
          refine zO (jQ hT h2) ?_
          refine zm hT 5 [1, 24] [(1, (.ptr 0 0)), (24, (.bool (decide (((l76 v2).length : Int) > 12))))] ?_
          refine zO (jQ hT h3) ?_
          refine ze hT 11 [1, 36] [(1, (.ptr 0 0)), (36, (.bool true))] ?_
          refine zK [1, 36] [(1, (.ptr 0 0)), (36, (.bool true))] ?_
          exact AE_done ⟨true, rfl, rfl, k, by omega, h⟩
        · rcases bif_split h with ⟨h4, h⟩ | ⟨h4, h⟩
          · refine AW_reg ?_
            refine zm hT 3 [1, 13] [(1, (.ptr 0 0)), (13, (.bool (decide (v1 < 0))))] ?_
            refine zO (jQ hT h1) ?_
            refine zm hT 4 [1, 18] [(1, (.ptr 0 0)), (18, (.bool (decide (v1 > 65535))))] ?_
            refine zO (jQ hT h2) ?_
            refine zm hT 5 [1, 24] [(1, (.ptr 0 0)), (24, (.bool (decide (((l76 v2).length : Int) > 12))))] ?_
            refine zO (jQ hT h3) ?_
            refine zm hT 5 [1, 30] [(1, (.ptr 0 0)), (30, (.bool (decide (((l34 v3).length : Int) < 1))))] ?_
            refine zO (jQ hT h4) ?_
            refine ze hT 5 [1, 36] [(1, (.ptr 0 0)), (36, (.bool true))] ?_
            refine zK [1, 36] [(1, (.ptr 0 0)), (36, (.bool true))] ?_
            exact AE_done ⟨true, rfl, rfl, k, by omega, h⟩
          · refine AW_reg ?_
            refine zm hT 3 [1, 13] [(1, (.ptr 0 0)), (13, (.bool (decide (v1 < 0))))] ?_
            refine zO (jQ hT h1) ?_
            refine zm hT 4 [1, 18] [(1, (.ptr 0 0)), (18, (.bool (decide (v1 > 65535))))] ?_
            refine zO (jQ hT h2) ?_
            refine zm hT 5 [1, 24] [(1, (.ptr 0 0)), (24, (.bool (decide (((l76 v2).length : Int) > 12))))] ?_
            refine zO (jQ hT h3) ?_
            refine zm hT 5 [1, 30] [(1, (.ptr 0 0)), (30, (.bool (decide (((l34 v3).length : Int) < 1))))] ?_
            refine zO (jQ hT h4) ?_
            refine ze hT 5 [1, 36] [(1, (.ptr 0 0)), (36, (.bool (decide (((l34 v3).length : Int) > 6))))] ?_
            refine zK [1, 36] [(1, (.ptr 0 0)), (36, (.bool (decide (((l34 v3).length : Int) > 6))))] ?_
            exact AE_done ⟨(decide (((l34 v3).length : Int) > 6)), rfl, rfl, k, by omega, h⟩
  · rintro _ _ ⟨v4, rfl, rfl, n, hn, h⟩
    obtain ⟨k5, rfl⟩ : ∃ q, q = n := ⟨n, rfl⟩
    rw [F13_j0] at h
    rcases bif_split h with ⟨h7, h⟩ | ⟨h7, h⟩
    · refine zT h7 ?_
      refine zs hT [2, 3] [(2, (aI (-1))), (3, (aI 0))] ?_
      refine AE_ret ?_
      refine AE_seqR ?_
      refine zK [2, 3] [(2, (aI (-1))), (3, (aI 0))] ?_
      simp only [Option.some.injEq, Prod.mk.injEq] at h
      obtain ⟨rfl, rfl⟩ := h
      exact zEnd
    · refine zN h7 ?_
      refine AE_skip ?_
      refine AE_seqN ?_
      refine AW_seq ?_
      refine zs hT [1, 4] [(1, (.ptr 0 0)), (4, (aI 0))] ?_
      refine AW_block ?_
      refine zKw [1, 4] [(1, (.ptr 0 0)), (4, (aI 0))] ?_
      refine AW_loop (fun n env L => n ≤ k5 ∧ ∃ (v5 : Int), env = [(1, (.ptr 0 0)), (4, (aI v5))] ∧ L = [.cells [(aI v1), (.sl (l76 v2)), (.sl (l34 v3))]] ∧ F13_l1 n v2 v3 v5 = some (r1, r2)) k5 ⟨Nat.le_refl _, 0, rfl, rfl, h⟩ ?_
      rintro n _ _ ⟨hn, v5, rfl, rfl, h⟩
      cases n with
      | zero => rw [F13_l1] at h; cases h
      | succ k8 =>
        rw [F13_l1] at h
        refine AW_seq ?_
        refine zs hT [1, 4, 41] [(1, (.ptr 0 0)), (4, (aI v5)), (41, (.bool (decide (v5 < ((l76 v2).length : Int)))))] ?_
        rcases bif_split h with ⟨h10, h⟩ | ⟨h10, h⟩
        · refine zT h10 ?_
          refine AE_skip ?_
          refine AE_seqN ?_
          refine AW_seq ?_
          refine AW_block ?_
          refine AW_seq ?_
          obtain ⟨⟨v6, v7, v8, v9⟩, h11, h⟩ := bsm h
          try dsimp only at h
          refine AW_reg ?_
          refine zm hT 3 [1, 4, 45, 46] [(1, (.ptr 0 0)), (4, (aI v5)), (45, (.sl (l76 v2))), (46, (aI v5))] ?_
          refine zO (jX hT 4 (i76 h11)) ?_
          refine zE hT 3 [1, 4, 5] [(1, (.ptr 0 0)), (4, (aI v5)), (5, (.ptr 1 0))] [.cells [(aI v1), (.sl (l76 v2)), (.sl (l34 v3))], .cells [(aI v6), (.str v7), (aI v8), (aI v9)]] ?_
          refine AE_seqN ?_
          refine AW_join (fun env L => ∃ (v10 : Int) (v11 : Bool) (v12 : Int) (v13 : ByteArray) (v14 : Int) (v15 : Int), env = [(1, (.ptr 0 0)), (4, (aI v10)), (82, (.bool v11))] ∧ L = [.cells [(aI v1), (.sl (l76 v2)), (.sl (l34 v3))], .cells [(aI v12), (.str v13), (aI v14), (aI v15)]] ∧ ∃ n, n ≤ k8 ∧ F13_j2 n v2 v3 v10 v11 = some (r1, r2)) ?_ ?_
          · rcases bif_split h with ⟨h12, h⟩ | ⟨h12, h⟩
            · refine AW_reg ?_
              refine zm hT 3 [1, 4, 5, 51] [(1, (.ptr 0 0)), (4, (aI v5)), (5, (.ptr 1 0)), (51, (.bool (decide (v6 < 1))))] ?_
              refine zO (jQ hT h12) ?_
              refine ze hT 30 [1, 4, 82] [(1, (.ptr 0 0)), (4, (aI v5)), (82, (.bool true))] ?_
              refine zK [1, 4, 82] [(1, (.ptr 0 0)), (4, (aI v5)), (82, (.bool true))] ?_
              exact AE_done ⟨v5, true, v6, v7, v8, v9, rfl, rfl, k8, by omega, h⟩
            · rcases bif_split h with ⟨h13, h⟩ | ⟨h13, h⟩
              · refine AW_reg ?_
                refine zm hT 3 [1, 4, 5, 51] [(1, (.ptr 0 0)), (4, (aI v5)), (5, (.ptr 1 0)), (51, (.bool (decide (v6 < 1))))] ?_
                refine zO (jQ hT h12) ?_
                refine zm hT 4 [1, 4, 5, 56] [(1, (.ptr 0 0)), (4, (aI v5)), (5, (.ptr 1 0)), (56, (.bool (decide (v6 > 4))))] ?_
                refine zO (jQ hT h13) ?_
                refine ze hT 25 [1, 4, 82] [(1, (.ptr 0 0)), (4, (aI v5)), (82, (.bool true))] ?_
                refine zK [1, 4, 82] [(1, (.ptr 0 0)), (4, (aI v5)), (82, (.bool true))] ?_
                exact AE_done ⟨v5, true, v6, v7, v8, v9, rfl, rfl, k8, by omega, h⟩
              · obtain ⟨v16, h14, h⟩ := bsm h
                try dsimp only at h
                rcases bif_split h with ⟨h15, h⟩ | ⟨h15, h⟩
                · refine AW_reg ?_
                  refine zm hT 3 [1, 4, 5, 51] [(1, (.ptr 0 0)), (4, (aI v5)), (5, (.ptr 1 0)), (51, (.bool (decide (v6 < 1))))] ?_
                  refine zO (jQ hT h12) ?_
                  refine zm hT 4 [1, 4, 5, 56] [(1, (.ptr 0 0)), (4, (aI v5)), (5, (.ptr 1 0)), (56, (.bool (decide (v6 > 4))))] ?_
                  refine zO (jQ hT h13) ?_
                  refine zm hT 2 [1, 4, 5, 57, 59] [(1, (.ptr 0 0)), (4, (aI v5)), (5, (.ptr 1 0)), (57, (.bool false)), (59, (.str v7))] ?_
                  refine zO (jP Go.Proofs.Try.func38 (F38_ok k8 v7 v16 h14)) ?_
                  refine zm hT 2 [1, 4, 5, 62] [(1, (.ptr 0 0)), (4, (aI v5)), (5, (.ptr 1 0)), (62, (.bool (!v16)))] ?_
                  refine zO (jQ hT h15) ?_
                  refine ze hT 19 [1, 4, 82] [(1, (.ptr 0 0)), (4, (aI v5)), (82, (.bool true))] ?_
                  refine zK [1, 4, 82] [(1, (.ptr 0 0)), (4, (aI v5)), (82, (.bool true))] ?_
                  exact AE_done ⟨v5, true, v6, v7, v8, v9, rfl, rfl, k8, by omega, h⟩
                · rcases bif_split h with ⟨h16, h⟩ | ⟨h16, h⟩
                  · refine AW_reg ?_
                    refine zm hT 3 [1, 4, 5, 51] [(1, (.ptr 0 0)), (4, (aI v5)), (5, (.ptr 1 0)), (51, (.bool (decide (v6 < 1))))] ?_
                    refine zO (jQ hT h12) ?_
                    refine zm hT 4 [1, 4, 5, 56] [(1, (.ptr 0 0)), (4, (aI v5)), (5, (.ptr 1 0)), (56, (.bool (decide (v6 > 4))))] ?_
                    refine zO (jQ hT h13) ?_
                    refine zm hT 2 [1, 4, 5, 57, 59] [(1, (.ptr 0 0)), (4, (aI v5)), (5, (.ptr 1 0)), (57, (.bool false)), (59, (.str v7))] ?_
                    refine zO (jP Go.Proofs.Try.func38 (F38_ok k8 v7 v16 h14)) ?_
                    refine zm hT 2 [1, 4, 5, 62] [(1, (.ptr 0 0)), (4, (aI v5)), (5, (.ptr 1 0)), (62, (.bool (!v16)))] ?_
                    refine zO (jQ hT h15) ?_
                    refine zm hT 4 [1, 4, 5, 67] [(1, (.ptr 0 0)), (4, (aI v5)), (5, (.ptr 1 0)), (67, (.bool (decide (v8 < 0))))] ?_
                    refine zO (jQ hT h16) ?_
                    refine ze hT 14 [1, 4, 82] [(1, (.ptr 0 0)), (4, (aI v5)), (82, (.bool true))] ?_
                    refine zK [1, 4, 82] [(1, (.ptr 0 0)), (4, (aI v5)), (82, (.bool true))] ?_
                    exact AE_done ⟨v5, true, v6, v7, v8, v9, rfl, rfl, k8, by omega, h⟩
                  · rcases bif_split h with ⟨h17, h⟩ | ⟨h17, h⟩
                    · refine AW_reg ?_
                      refine zm hT 3 [1, 4, 5, 51] [(1, (.ptr 0 0)), (4, (aI v5)), (5, (.ptr 1 0)), (51, (.bool (decide (v6 < 1))))] ?_
                      refine zO (jQ hT h12) ?_
                      refine zm hT 4 [1, 4, 5, 56] [(1, (.ptr 0 0)), (4, (aI v5)), (5, (.ptr 1 0)), (56, (.bool (decide (v6 > 4))))] ?_
                      refine zO (jQ hT h13) ?_
                      refine zm hT 2 [1, 4, 5, 57, 59] [(1, (.ptr 0 0)), (4, (aI v5)), (5, (.ptr 1 0)), (57, (.bool false)), (59, (.str v7))] ?_
                      refine zO (jP Go.Proofs.Try.func38 (F38_ok k8 v7 v16 h14)) ?_
                      refine zm hT 2 [1, 4, 5, 62] [(1, (.ptr 0 0)), (4, (aI v5)), (5, (.ptr 1 0)), (62, (.bool (!v16)))] ?_
                      refine zO (jQ hT h15) ?_
                      refine zm hT 4 [1, 4, 5, 67] [(1, (.ptr 0 0)), (4, (aI v5)), (5, (.ptr 1 0)), (67, (.bool (decide (v8 < 0))))] ?_
                      refine zO (jQ hT h16) ?_
                      refine zm hT 4 [1, 4, 5, 72] [(1, (.ptr 0 0)), (4, (aI v5)), (5, (.ptr 1 0)), (72, (.bool (decide (v8 > 65535))))] ?_
                      refine zO (jQ hT h17) ?_
                      refine ze hT 9 [1, 4, 82] [(1, (.ptr 0 0)), (4, (aI v5)), (82, (.bool true))] ?_
                      refine zK [1, 4, 82] [(1, (.ptr 0 0)), (4, (aI v5)), (82, (.bool true))] ?_
                      exact AE_done ⟨v5, true, v6, v7, v8, v9, rfl, rfl, k8, by omega, h⟩
                    · rcases bif_split h with ⟨h18, h⟩ | ⟨h18, h⟩
                      · refine AW_reg ?_
                        refine zm hT 3 [1, 4, 5, 51] [(1, (.ptr 0 0)), (4, (aI v5)), (5, (.ptr 1 0)), (51, (.bool (decide (v6 < 1))))] ?_
                        refine zO (jQ hT h12) ?_
                        refine zm hT 4 [1, 4, 5, 56] [(1, (.ptr 0 0)), (4, (aI v5)), (5, (.ptr 1 0)), (56, (.bool (decide (v6 > 4))))] ?_
                        refine zO (jQ hT h13) ?_
                        refine zm hT 2 [1, 4, 5, 57, 59] [(1, (.ptr 0 0)), (4, (aI v5)), (5, (.ptr 1 0)), (57, (.bool false)), (59, (.str v7))] ?_
                        refine zO (jP Go.Proofs.Try.func38 (F38_ok k8 v7 v16 h14)) ?_
                        refine zm hT 2 [1, 4, 5, 62] [(1, (.ptr 0 0)), (4, (aI v5)), (5, (.ptr 1 0)), (62, (.bool (!v16)))] ?_
                        refine zO (jQ hT h15) ?_
                        refine zm hT 4 [1, 4, 5, 67] [(1, (.ptr 0 0)), (4, (aI v5)), (5, (.ptr 1 0)), (67, (.bool (decide (v8 < 0))))] ?_
                        refine zO (jQ hT h16) ?_
                        refine zm hT 4 [1, 4, 5, 72] [(1, (.ptr 0 0)), (4, (aI v5)), (5, (.ptr 1 0)), (72, (.bool (decide (v8 > 65535))))] ?_
                        refine zO (jQ hT h17) ?_
                        refine zm hT 3 [1, 4, 5, 73, 76] [(1, (.ptr 0 0)), (4, (aI v5)), (5, (.ptr 1 0)), (73, (.bool false)), (76, (.bool (v6 == 3)))] ?_
                        refine zO (jQ hT h18) ?_
                        refine ze hT 5 [1, 4, 82] [(1, (.ptr 0 0)), (4, (aI v5)), (82, (.bool (v8 != 0)))] ?_
                        refine zK [1, 4, 82] [(1, (.ptr 0 0)), (4, (aI v5)), (82, (.bool (v8 != 0)))] ?_
                        exact AE_done ⟨v5, (v8 != 0), v6, v7, v8, v9, rfl, rfl, k8, by omega, h⟩
                      · refine AW_reg ?_
                        refine zm hT 3 [1, 4, 5, 51] [(1, (.ptr 0 0)), (4, (aI v5)), (5, (.ptr 1 0)), (51, (.bool (decide (v6 < 1))))] ?_
                        refine zO (jQ hT h12) ?_
                        refine zm hT 4 [1, 4, 5, 56] [(1, (.ptr 0 0)), (4, (aI v5)), (5, (.ptr 1 0)), (56, (.bool (decide (v6 > 4))))] ?_
                        refine zO (jQ hT h13) ?_
                        refine zm hT 2 [1, 4, 5, 57, 59] [(1, (.ptr 0 0)), (4, (aI v5)), (5, (.ptr 1 0)), (57, (.bool false)), (59, (.str v7))] ?_
                        refine zO (jP Go.Proofs.Try.func38 (F38_ok k8 v7 v16 h14)) ?_
                        refine zm hT 2 [1, 4, 5, 62] [(1, (.ptr 0 0)), (4, (aI v5)), (5, (.ptr 1 0)), (62, (.bool (!v16)))] ?_
                        refine zO (jQ hT h15) ?_
                        refine zm hT 4 [1, 4, 5, 67] [(1, (.ptr 0 0)), (4, (aI v5)), (5, (.ptr 1 0)), (67, (.bool (decide (v8 < 0))))] ?_
                        refine zO (jQ hT h16) ?_
                        refine zm hT 4 [1, 4, 5, 72] [(1, (.ptr 0 0)), (4, (aI v5)), (5, (.ptr 1 0)), (72, (.bool (decide (v8 > 65535))))] ?_
                        refine zO (jQ hT h17) ?_
                        refine zm hT 3 [1, 4, 5, 73, 76] [(1, (.ptr 0 0)), (4, (aI v5)), (5, (.ptr 1 0)), (73, (.bool false)), (76, (.bool (v6 == 3)))] ?_
                        refine zO (jQ hT h18) ?_
                        refine ze hT 5 [1, 4, 82] [(1, (.ptr 0 0)), (4, (aI v5)), (82, (.bool false))] ?_
                        refine zK [1, 4, 82] [(1, (.ptr 0 0)), (4, (aI v5)), (82, (.bool false))] ?_
                        exact AE_done ⟨v5, false, v6, v7, v8, v9, rfl, rfl, k8, by omega, h⟩
          · rintro _ _ ⟨v10, v11, v12, v13, v14, v15, rfl, rfl, n, hn, h⟩
            obtain _ | k19 := n
            · rw [F13_j2] at h; cases h
            rw [F13_j2] at h
            rcases bif_split h with ⟨h21, h⟩ | ⟨h21, h⟩
            · refine zT h21 ?_
              refine zs hT [2, 3] [(2, (aI (-1))), (3, (aI 0))] ?_
              refine AE_ret ?_
              refine AE_blkR ?_
              refine AE_seqR ?_
              refine AE_seqR ?_
              refine AE_blkR ?_
              refine AE_seqR ?_
              refine zK [2, 3] [(2, (aI (-1))), (3, (aI 0))] ?_
              simp only [Option.some.injEq, Prod.mk.injEq] at h
              obtain ⟨rfl, rfl⟩ := h
              exact zEnd
            · refine zN h21 ?_
              refine AE_skip ?_
              refine AE_blkN ?_
              refine AE_seqN ?_
              refine zr hT [1, 4] [(1, (.ptr 0 0)), (4, (aI (IntKind.wrap .i64 (v10 + 1))))] ?_
              refine zK [1, 4] [(1, (.ptr 0 0)), (4, (aI (IntKind.wrap .i64 (v10 + 1))))] ?_
              refine zD 1 [.cells [(aI v1), (.sl (l76 v2)), (.sl (l34 v3))]] ?_
              exact AE_done ⟨k19, by omega, by omega, (IntKind.wrap .i64 (v10 + 1)), rfl, rfl, h⟩
        · refine zN h10 ?_
          refine AE_exit ?_
          refine AE_seqX ?_
          refine AE_seqX ?_
          refine AE_blkH ?_
          refine AE_seqN ?_
          refine zs hT [1, 6, 7] [(1, (.ptr 0 0)), (6, (aI 0)), (7, (aI 0))] ?_
          refine AW_seq ?_
          refine zs hT [1, 6, 7, 8] [(1, (.ptr 0 0)), (6, (aI 0)), (7, (aI 0)), (8, (aI 0))] ?_
          refine AW_block ?_
          refine zKw [1, 6, 7, 8] [(1, (.ptr 0 0)), (6, (aI 0)), (7, (aI 0)), (8, (aI 0))] ?_
          refine AW_loop (fun n env L => n ≤ k8 ∧ ∃ (v17 : Int) (v18 : Int) (v19 : Int), env = [(1, (.ptr 0 0)), (6, (aI v17)), (7, (aI v18)), (8, (aI v19))] ∧ L = [.cells [(aI v1), (.sl (l76 v2)), (.sl (l34 v3))]] ∧ F13_l3 n v3 v17 v18 v19 = some (r1, r2)) k8 ⟨Nat.le_refl _, 0, 0, 0, rfl, rfl, h⟩ ?_
          rintro n _ _ ⟨hn, v17, v18, v19, rfl, rfl, h⟩
          cases n with
          | zero => rw [F13_l3] at h; cases h
          | succ k22 =>
            rw [F13_l3] at h
            refine AW_seq ?_
            refine zs hT [1, 6, 7, 8, 87] [(1, (.ptr 0 0)), (6, (aI v17)), (7, (aI v18)), (8, (aI v19)), (87, (.bool (decide (v19 < ((l34 v3).length : Int)))))] ?_
            rcases bif_split h with ⟨h24, h⟩ | ⟨h24, h⟩
            · refine zT h24 ?_
              refine AE_skip ?_
              refine AE_seqN ?_
              refine AW_seq ?_
              refine AW_block ?_
              refine AW_seq ?_
              obtain ⟨⟨v20, v21, v22⟩, h25, h⟩ := bsm h
              try dsimp only at h
              obtain ⟨⟨v23, v24⟩, h26, h⟩ := bsm h
              try dsimp only at h
              refine AW_reg ?_
              refine zm hT 3 [1, 6, 7, 8, 92, 93] [(1, (.ptr 0 0)), (6, (aI v17)), (7, (aI v18)), (8, (aI v19)), (92, (.sl (l34 v3))), (93, (aI v19))] ?_
              refine zO (jX hT 3 (i34 h25)) ?_
              refine zm hT 2 [1, 6, 7, 8, 96] [(1, (.ptr 0 0)), (6, (aI v17)), (7, (aI v18)), (8, (aI v19)), (96, (.sl (l69 v21)))] ?_
              refine zO (jP Go.Proofs.Try.func39 (F39_ok k22 v21 12 v23 v24 h26)) ?_
              refine ze hT 5 [1, 6, 7, 8, 9, 10] [(1, (.ptr 0 0)), (6, (aI v17)), (7, (aI v18)), (8, (aI v19)), (9, (aI v23)), (10, (aI v24))] ?_
              refine AE_seqN ?_
              refine AW_seq ?_
              refine AW_join (fun env L => ∃ (v25 : Int) (v26 : Int) (v27 : Int) (v28 : Int) (v29 : Int) (v30 : Bool), env = [(1, (.ptr 0 0)), (6, (aI v25)), (7, (aI v26)), (8, (aI v27)), (9, (aI v28)), (10, (aI v29)), (111, (.bool v30))] ∧ L = [.cells [(aI v1), (.sl (l76 v2)), (.sl (l34 v3))]] ∧ ∃ n, n ≤ k22 ∧ F13_j4 n v3 v25 v26 v27 v28 v29 v30 = some (r1, r2)) ?_ ?_
              · rcases bif_split h with ⟨h27, h⟩ | ⟨h27, h⟩
                · refine AW_reg ?_
                  refine zm hT 2 [1, 6, 7, 8, 9, 10, 101] [(1, (.ptr 0 0)), (6, (aI v17)), (7, (aI v18)), (8, (aI v19)), (9, (aI v23)), (10, (aI v24)), (101, (.bool (decide (v23 < 0))))] ?_
                  refine zO (jQ hT h27) ?_
                  refine ze hT 9 [1, 6, 7, 8, 9, 10, 111] [(1, (.ptr 0 0)), (6, (aI v17)), (7, (aI v18)), (8, (aI v19)), (9, (aI v23)), (10, (aI v24)), (111, (.bool true))] ?_
                  refine zK [1, 6, 7, 8, 9, 10, 111] [(1, (.ptr 0 0)), (6, (aI v17)), (7, (aI v18)), (8, (aI v19)), (9, (aI v23)), (10, (aI v24)), (111, (.bool true))] ?_
                  exact AE_done ⟨v17, v18, v19, v23, v24, true, rfl, rfl, k22, by omega, h⟩
                · obtain ⟨⟨v31, v32, v33⟩, h28, h⟩ := bsm h
                  try dsimp only at h
                  obtain ⟨v34, h29, h⟩ := bsm h
                  try dsimp only at h
                  refine AW_reg ?_
                  refine zm hT 2 [1, 6, 7, 8, 9, 10, 101] [(1, (.ptr 0 0)), (6, (aI v17)), (7, (aI v18)), (8, (aI v19)), (9, (aI v23)), (10, (aI v24)), (101, (.bool (decide (v23 < 0))))] ?_
                  refine zO (jQ hT h27) ?_
                  refine zm hT 3 [1, 6, 7, 8, 9, 10, 102, 104, 105] [(1, (.ptr 0 0)), (6, (aI v17)), (7, (aI v18)), (8, (aI v19)), (9, (aI v23)), (10, (aI v24)), (102, (.bool false)), (104, (.sl (l34 v3))), (105, (aI v19))] ?_
                  refine zO (jX hT 3 (i34 h28)) ?_
                  refine zm hT 2 [1, 6, 7, 8, 9, 10, 102, 108] [(1, (.ptr 0 0)), (6, (aI v17)), (7, (aI v18)), (8, (aI v19)), (9, (aI v23)), (10, (aI v24)), (102, (.bool false)), (108, (.str v31))] ?_
                  refine zO (jP Go.Proofs.Try.func38 (F38_ok k22 v31 v34 h29)) ?_
                  refine ze hT 2 [1, 6, 7, 8, 9, 10, 111] [(1, (.ptr 0 0)), (6, (aI v17)), (7, (aI v18)), (8, (aI v19)), (9, (aI v23)), (10, (aI v24)), (111, (.bool (!v34)))] ?_
                  refine zK [1, 6, 7, 8, 9, 10, 111] [(1, (.ptr 0 0)), (6, (aI v17)), (7, (aI v18)), (8, (aI v19)), (9, (aI v23)), (10, (aI v24)), (111, (.bool (!v34)))] ?_
                  exact AE_done ⟨v17, v18, v19, v23, v24, (!v34), rfl, rfl, k22, by omega, h⟩
              · rintro _ _ ⟨v25, v26, v27, v28, v29, v30, rfl, rfl, n, hn, h⟩
                obtain _ | k30 := n
                · rw [F13_j4] at h; cases h
                rw [F13_j4] at h
                rcases bif_split h with ⟨h32, h⟩ | ⟨h32, h⟩
                · refine zT h32 ?_
                  refine zs hT [2, 3] [(2, (aI (-1))), (3, (aI 0))] ?_
                  refine AE_ret ?_
                  refine AE_seqR ?_
                  refine AE_blkR ?_
                  refine AE_seqR ?_
                  refine AE_seqR ?_
                  refine AE_blkR ?_
                  refine AE_seqR ?_
                  refine zK [2, 3] [(2, (aI (-1))), (3, (aI 0))] ?_
                  simp only [Option.some.injEq, Prod.mk.injEq] at h
                  obtain ⟨rfl, rfl⟩ := h
                  exact zEnd
                · refine zN h32 ?_
                  refine AE_skip ?_
                  refine AE_seqN ?_
                  refine zs hT [1, 6, 7, 8, 10] [(1, (.ptr 0 0)), (6, (aI (IntKind.wrap .i64 (v25 + v28)))), (7, (aI v26)), (8, (aI v27)), (10, (aI v29))] ?_
                  refine zr hT [1, 6, 7, 8] [(1, (.ptr 0 0)), (6, (aI (IntKind.wrap .i64 (v25 + v28)))), (7, (aI (IntKind.wrap .i64 (v26 + v29)))), (8, (aI v27))] ?_
                  refine AE_blkN ?_
                  refine AE_seqN ?_
                  refine zr hT [1, 6, 7, 8] [(1, (.ptr 0 0)), (6, (aI (IntKind.wrap .i64 (v25 + v28)))), (7, (aI (IntKind.wrap .i64 (v26 + v29)))), (8, (aI (IntKind.wrap .i64 (v27 + 1))))] ?_
                  refine zK [1, 6, 7, 8] [(1, (.ptr 0 0)), (6, (aI (IntKind.wrap .i64 (v25 + v28)))), (7, (aI (IntKind.wrap .i64 (v26 + v29)))), (8, (aI (IntKind.wrap .i64 (v27 + 1))))] ?_
                  exact AE_done ⟨k30, by omega, by omega, (IntKind.wrap .i64 (v25 + v28)), (IntKind.wrap .i64 (v26 + v29)), (IntKind.wrap .i64 (v27 + 1)), rfl, rfl, h⟩
            · refine zN h24 ?_
              refine AE_exit ?_
              refine AE_seqX ?_
              refine AE_seqX ?_
              refine AE_blkH ?_
              refine AE_seqN ?_
              refine AW_seq ?_
              refine AW_join (fun env L => ∃ (v35 : Bool), env = [(6, (aI v17)), (7, (aI v18)), (123, (.bool v35))] ∧ L = [.cells [(aI v1), (.sl (l76 v2)), (.sl (l34 v3))]] ∧ ∃ n, n ≤ k22 ∧ F13_j5 n v17 v18 v35 = some (r1, r2)) ?_ ?_
              · rcases bif_split h with ⟨h33, h⟩ | ⟨h33, h⟩
                · refine AW_reg ?_
                  refine zm hT 2 [6, 7, 119] [(6, (aI v17)), (7, (aI v18)), (119, (.bool (decide (v17 > 200))))] ?_
                  refine zO (jQ hT h33) ?_
                  refine ze hT 3 [6, 7, 123] [(6, (aI v17)), (7, (aI v18)), (123, (.bool true))] ?_
                  refine zK [6, 7, 123] [(6, (aI v17)), (7, (aI v18)), (123, (.bool true))] ?_
                  exact AE_done ⟨true, rfl, rfl, k22, by omega, h⟩
                · refine AW_reg ?_
                  refine zm hT 2 [6, 7, 119] [(6, (aI v17)), (7, (aI v18)), (119, (.bool (decide (v17 > 200))))] ?_
                  refine zO (jQ hT h33) ?_
                  refine ze hT 3 [6, 7, 123] [(6, (aI v17)), (7, (aI v18)), (123, (.bool (decide (v18 > 8192))))] ?_
                  refine zK [6, 7, 123] [(6, (aI v17)), (7, (aI v18)), (123, (.bool (decide (v18 > 8192))))] ?_
                  exact AE_done ⟨(decide (v18 > 8192)), rfl, rfl, k22, by omega, h⟩
              · rintro _ _ ⟨v35, rfl, rfl, n, hn, h⟩
                obtain ⟨k34, rfl⟩ : ∃ q, q = n := ⟨n, rfl⟩
                rw [F13_j5] at h
                rcases bif_split h with ⟨h36, h⟩ | ⟨h36, h⟩
                · refine zT h36 ?_
                  refine zs hT [2, 3] [(2, (aI (-1))), (3, (aI 0))] ?_
                  refine AE_ret ?_
                  refine AE_seqR ?_
                  refine zK [2, 3] [(2, (aI (-1))), (3, (aI 0))] ?_
                  simp only [Option.some.injEq, Prod.mk.injEq] at h
                  obtain ⟨rfl, rfl⟩ := h
                  exact zEnd
                · refine zN h36 ?_
                  refine AE_skip ?_
                  refine AE_seqN ?_
                  refine zs hT [2, 3] [(2, (aI v17)), (3, (aI v18))] ?_
                  refine AE_ret ?_
                  refine zK [2, 3] [(2, (aI v17)), (3, (aI v18))] ?_
                  simp only [Option.some.injEq, Prod.mk.injEq] at h
                  obtain ⟨rfl, rfl⟩ := h
                  exact zEnd

mutual
def F16 : Nat → (List T69) → Int → Option (Int)
  | 0, _, _ => none
  | k + 1, v1, v2 =>
    F16_l0 k v1 v2 0 0
def F16_j1 : Nat → (List T69) → Int → Int → Int → Bool → Option (Int)
  | 0, _, _, _, _, _ => none
  | k4 + 1, v1, v2, v5, v6, v7 =>
    (bif v7 then
      ((idx v1 v6).bind fun ⟨v10, v11, v12, v13, v14, v15, v16⟩ =>
        ((F16 k4 v14 (IntKind.wrap .i64 (v2 - 1))).bind fun v17 =>
          ((idx v1 v6).bind fun ⟨v18, v19, v20, v21, v22, v23, v24⟩ =>
            ((F16 k4 v23 (IntKind.wrap .i64 (v2 - 1))).bind fun v25 =>
              (bif (decide (v17 < v25)) then
                F16_j3 k4 v1 v2 v5 v6 v25
              else
                F16_j3 k4 v1 v2 v5 v6 v17)))))
    else
      some (v5))
def F16_j2 : Nat → (List T69) → Int → Int → Int → Option (Int)
  | 0, _, _, _, _ => none
  | k15 + 1, v1, v2, v8, v9 =>
    F16_l0 k15 v1 v2 v8 (IntKind.wrap .i64 (v9 + 1))
def F16_j3 : Nat → (List T69) → Int → Int → Int → Int → Option (Int)
  | 0, _, _, _, _, _ => none
  | k12 + 1, v1, v2, v26, v27, v28 =>
    (bif (decide ((IntKind.wrap .i64 (v28 + 1)) > v26)) then
      F16_j2 k12 v1 v2 (IntKind.wrap .i64 (v28 + 1)) v27
    else
      F16_j2 k12 v1 v2 v26 v27)
def F16_l0 : Nat → (List T69) → Int → Int → Int → Option (Int)
  | 0, _, _, _, _ => none
  | k1 + 1, v1, v2, v3, v4 =>
    (bif (decide (v4 < ((l69 v1).length : Int))) then
      F16_j1 k1 v1 v2 v3 v4 (decide (v2 > 0))
    else
      F16_j1 k1 v1 v2 v3 v4 false)
end

theorem F16_step (K0 : Nat) (ih_F16 : ∀ k, k < K0 → ∀ (v1 : (List T69)) (v2 : Int) (r1 : Int), F16 k v1 v2 = some (r1) → Fn prog 16 [(.sl (l69 v1)), (aI v2)] [] (aI r1) []) : ∀ (v1 : (List T69)) (v2 : Int) (r1 : Int), F16 K0 v1 v2 = some (r1) → Fn prog 16 [(.sl (l69 v1)), (aI v2)] [] (aI r1) [] := by
  intro v1 v2 r1 h
  cases K0 with
  | zero => rw [F16] at h; cases h
  | succ k =>
    have hk : k < k + 1 := Nat.lt_succ_self k
    rw [F16] at h
    refine Fn_bodyK hT Go.Proofs.Try.func16 (c := Go.Proofs.Try.f16.body.getD .skip) (by kernel_rfl) (by kernel_rfl) (by kernel_rfl) ?_
    refine zs hT [0, 1] [(0, (.sl (l69 v1))), (1, (aI v2))] ?_
    refine zs hT [0, 1, 5] [(0, (.sl (l69 v1))), (1, (aI v2)), (5, (aI 0))] ?_
    refine AW_seq ?_
    refine zs hT [0, 1, 5, 6] [(0, (.sl (l69 v1))), (1, (aI v2)), (5, (aI 0)), (6, (aI 0))] ?_
    refine AW_block ?_
    refine zKw [0, 1, 5, 6] [(0, (.sl (l69 v1))), (1, (aI v2)), (5, (aI 0)), (6, (aI 0))] ?_
    refine AW_loop (fun n env L => n ≤ k ∧ ∃ (v3 : Int) (v4 : Int), env = [(0, (.sl (l69 v1))), (1, (aI v2)), (5, (aI v3)), (6, (aI v4))] ∧ L = [] ∧ F16_l0 n v1 v2 v3 v4 = some (r1)) k ⟨Nat.le_refl _, 0, 0, rfl, rfl, h⟩ ?_
    rintro n _ _ ⟨hn, v3, v4, rfl, rfl, h⟩
    cases n with
    | zero => rw [F16_l0] at h; cases h
    | succ k1 =>
      have h2 : k1 < (k + 1) := by omega
      rw [F16_l0] at h
      refine AW_seq ?_
      refine AW_join (fun env L => ∃ (v5 : Int) (v6 : Int) (v7 : Bool), env = [(0, (.sl (l69 v1))), (1, (aI v2)), (5, (aI v5)), (6, (aI v6)), (16, (.bool v7))] ∧ L = [] ∧ ∃ n, n ≤ k1 ∧ F16_j1 n v1 v2 v5 v6 v7 = some (r1)) ?_ ?_
      · rcases bif_split h with ⟨h3, h⟩ | ⟨h3, h⟩
        · refine AW_reg ?_
          refine zm hT 4 [0, 1, 5, 6, 12] [(0, (.sl (l69 v1))), (1, (aI v2)), (5, (aI v3)), (6, (aI v4)), (12, (.bool (decide (v4 < ((l69 v1).length : Int)))))] ?_
          refine zO (jQ hT h3) ?_
          refine ze hT 3 [0, 1, 5, 6, 16] [(0, (.sl (l69 v1))), (1, (aI v2)), (5, (aI v3)), (6, (aI v4)), (16, (.bool (decide (v2 > 0))))] ?_
          refine zK [0, 1, 5, 6, 16] [(0, (.sl (l69 v1))), (1, (aI v2)), (5, (aI v3)), (6, (aI v4)), (16, (.bool (decide (v2 > 0))))] ?_
          exact AE_done ⟨v3, v4, (decide (v2 > 0)), rfl, rfl, k1, by omega, h⟩
        · refine AW_reg ?_
          refine zm hT 4 [0, 1, 5, 6, 12] [(0, (.sl (l69 v1))), (1, (aI v2)), (5, (aI v3)), (6, (aI v4)), (12, (.bool (decide (v4 < ((l69 v1).length : Int)))))] ?_
          refine zO (jQ hT h3) ?_
          refine ze hT 3 [0, 1, 5, 6, 16] [(0, (.sl (l69 v1))), (1, (aI v2)), (5, (aI v3)), (6, (aI v4)), (16, (.bool false))] ?_
          refine zK [0, 1, 5, 6, 16] [(0, (.sl (l69 v1))), (1, (aI v2)), (5, (aI v3)), (6, (aI v4)), (16, (.bool false))] ?_
          exact AE_done ⟨v3, v4, false, rfl, rfl, k1, by omega, h⟩
      · rintro _ _ ⟨v5, v6, v7, rfl, rfl, n, hn, h⟩
        obtain _ | k4 := n
        · rw [F16_j1] at h; cases h
        have h5 : k4 < (k + 1) := by omega
        rw [F16_j1] at h
        rcases bif_split h with ⟨h6, h⟩ | ⟨h6, h⟩
        · refine zT h6 ?_
          refine AE_skip ?_
          refine AE_seqN ?_
          refine AW_join (fun env L => ∃ (v8 : Int) (v9 : Int), env = [(0, (.sl (l69 v1))), (1, (aI v2)), (5, (aI v8)), (6, (aI v9))] ∧ L = [] ∧ ∃ n, n ≤ k4 ∧ F16_j2 n v1 v2 v8 v9 = some (r1)) ?_ ?_
          · refine AW_block ?_
            refine AW_seq ?_
            obtain ⟨⟨v10, v11, v12, v13, v14, v15, v16⟩, h7, h⟩ := bsm h
            try dsimp only at h
            obtain ⟨v17, h8, h⟩ := bsm h
            try dsimp only at h
            obtain ⟨⟨v18, v19, v20, v21, v22, v23, v24⟩, h9, h⟩ := bsm h
            try dsimp only at h
            obtain ⟨v25, h10, h⟩ := bsm h
            try dsimp only at h
            refine AW_drx hmix [⟨(.sl (l69 v1)), [], 0, 0, false⟩, ⟨(aI v6), [], 0, 0, false⟩, ⟨(.rp [(aI v10), (.str v11), (.str v12), (.sl (l57 v13)), (.sl (l69 v14)), (.sl (l69 v15)), (aI v16)]), [0, 1], 0, 0, false⟩, ⟨(.rp [(.sl (l69 v14)), (.sl (l69 v15)), (aI v16)]), [0, 1, 2], 0, 0, false⟩, ⟨(.sl (l69 v14)), [0, 1, 2, 3], 0, 0, false⟩, ⟨(aI v2), [], 0, 0, false⟩, ⟨(aI (IntKind.wrap .i64 (v2 - 1))), [5], 0, 0, false⟩, ⟨(aI v17), [0, 1, 2, 3, 4, 5, 6], 0, 0, false⟩, ⟨(.sl (l69 v1)), [], 0, 0, false⟩, ⟨(aI v6), [], 0, 0, false⟩, ⟨(.rp [(aI v18), (.str v19), (.str v20), (.sl (l57 v21)), (.sl (l69 v22)), (.sl (l69 v23)), (aI v24)]), [8, 9], 0, 0, false⟩, ⟨(.rp [(.sl (l69 v23)), (aI v24)]), [8, 9, 10], 0, 0, false⟩, ⟨(.sl (l69 v23)), [8, 9, 10, 11], 0, 0, false⟩, ⟨(aI v2), [], 0, 0, false⟩, ⟨(aI (IntKind.wrap .i64 (v2 - 1))), [13], 0, 0, false⟩, ⟨(aI v25), [0, 1, 2, 3, 4, 5, 6, 7, 8, 9, 10, 11, 12, 13, 14], 0, 0, false⟩, ⟨(aI v17), [0, 1, 2, 3, 4, 5, 6, 7, 8, 9, 10, 11, 12, 13, 14, 15], 0, 0, false⟩, ⟨(aI v25), [0, 1, 2, 3, 4, 5, 6, 7, 8, 9, 10, 11, 12, 13, 14, 15, 16], 0, 0, false⟩] [] (fun _ => []) [0, 1, 5, 6, 7, 8] [(0, (.sl (l69 v1))), (1, (aI v2)), (5, (aI v5)), (6, (aI v6)), (7, (aI v17)), (8, (aI v25))] [] (by kernel_rfl) rfl rfl (by kernel_rfl) ?_ ?_
            · refine SA_plain hT 2 (by kernel_rfl) ?_
              refine SA_tell (v := (.rp [(aI v10), (.str v11), (.str v12), (.sl (l57 v13)), (.sl (l69 v14)), (.sl (l69 v15)), (aI v16)])) (by kernel_rfl) (by kernel_rfl) (by kernel_rfl) (fun L => (jX hT 7 (i69 h7))) ?_
              refine SA_plain hT 4 (by kernel_rfl) ?_
              refine SA_tell (v := (aI v17)) (by kernel_rfl) (by kernel_rfl) (by kernel_rfl) (fun L => (jP Go.Proofs.Try.func16 (ih_F16 k4 h5 v14 (IntKind.wrap .i64 (v2 - 1)) v17 h8))) ?_
              refine SA_plain hT 2 (by kernel_rfl) ?_
              refine SA_tell (v := (.rp [(aI v18), (.str v19), (.str v20), (.sl (l57 v21)), (.sl (l69 v22)), (.sl (l69 v23)), (aI v24)])) (by kernel_rfl) (by kernel_rfl) (by kernel_rfl) (fun L => (jX hT 7 (i69 h9))) ?_
              refine SA_plain hT 4 (by kernel_rfl) ?_
              refine SA_tell (v := (aI v25)) (by kernel_rfl) (by kernel_rfl) (by kernel_rfl) (fun L => (jP Go.Proofs.Try.func16 (ih_F16 k4 h5 v23 (IntKind.wrap .i64 (v2 - 1)) v25 h10))) ?_
              refine SA_plain hT 2 (by kernel_rfl) ?_
              exact SA_end (by kernel_rfl)
            refine AE_seqN ?_
            refine AW_join (fun env L => ∃ (v26 : Int) (v27 : Int) (v28 : Int), env = [(0, (.sl (l69 v1))), (1, (aI v2)), (5, (aI v26)), (6, (aI v27)), (7, (aI v28))] ∧ L = [] ∧ ∃ n, n ≤ k4 ∧ F16_j3 n v1 v2 v26 v27 v28 = some (r1)) ?_ ?_
            · refine zs hT [0, 1, 5, 6, 7, 8, 37] [(0, (.sl (l69 v1))), (1, (aI v2)), (5, (aI v5)), (6, (aI v6)), (7, (aI v17)), (8, (aI v25)), (37, (.bool (decide (v17 < v25))))] ?_
              rcases bif_split h with ⟨h11, h⟩ | ⟨h11, h⟩
              · refine zT h11 ?_
                refine zr hT [0, 1, 5, 6, 7] [(0, (.sl (l69 v1))), (1, (aI v2)), (5, (aI v5)), (6, (aI v6)), (7, (aI v25))] ?_
                refine zK [0, 1, 5, 6, 7] [(0, (.sl (l69 v1))), (1, (aI v2)), (5, (aI v5)), (6, (aI v6)), (7, (aI v25))] ?_
                exact AE_done ⟨v5, v6, v25, rfl, rfl, k4, by omega, h⟩
              · refine zN h11 ?_
                refine AE_skip ?_
                refine zK [0, 1, 5, 6, 7] [(0, (.sl (l69 v1))), (1, (aI v2)), (5, (aI v5)), (6, (aI v6)), (7, (aI v17))] ?_
                exact AE_done ⟨v5, v6, v17, rfl, rfl, k4, by omega, h⟩
            · rintro _ _ ⟨v26, v27, v28, rfl, rfl, n, hn, h⟩
              obtain _ | k12 := n
              · rw [F16_j3] at h; cases h
              have h13 : k12 < (k + 1) := by omega
              rw [F16_j3] at h
              refine zs hT [0, 1, 5, 6, 7, 42] [(0, (.sl (l69 v1))), (1, (aI v2)), (5, (aI v26)), (6, (aI v27)), (7, (aI v28)), (42, (.bool (decide ((IntKind.wrap .i64 (v28 + 1)) > v26))))] ?_
              rcases bif_split h with ⟨h14, h⟩ | ⟨h14, h⟩
              · refine zT h14 ?_
                refine zr hT [0, 1, 5, 6] [(0, (.sl (l69 v1))), (1, (aI v2)), (5, (aI (IntKind.wrap .i64 (v28 + 1)))), (6, (aI v27))] ?_
                refine AE_blkN ?_
                refine zK [0, 1, 5, 6] [(0, (.sl (l69 v1))), (1, (aI v2)), (5, (aI (IntKind.wrap .i64 (v28 + 1)))), (6, (aI v27))] ?_
                exact AE_done ⟨(IntKind.wrap .i64 (v28 + 1)), v27, rfl, rfl, k12, by omega, h⟩
              · refine zN h14 ?_
                refine AE_skip ?_
                refine AE_blkN ?_
                refine zK [0, 1, 5, 6] [(0, (.sl (l69 v1))), (1, (aI v2)), (5, (aI v26)), (6, (aI v27))] ?_
                exact AE_done ⟨v26, v27, rfl, rfl, k12, by omega, h⟩
          · rintro _ _ ⟨v8, v9, rfl, rfl, n, hn, h⟩
            obtain _ | k15 := n
            · rw [F16_j2] at h; cases h
            have h16 : k15 < (k + 1) := by omega
            rw [F16_j2] at h
            refine zr hT [0, 1, 5, 6] [(0, (.sl (l69 v1))), (1, (aI v2)), (5, (aI v8)), (6, (aI (IntKind.wrap .i64 (v9 + 1))))] ?_
            refine zK [0, 1, 5, 6] [(0, (.sl (l69 v1))), (1, (aI v2)), (5, (aI v8)), (6, (aI (IntKind.wrap .i64 (v9 + 1))))] ?_
            exact AE_done ⟨k15, by omega, by omega, v8, (IntKind.wrap .i64 (v9 + 1)), rfl, rfl, h⟩
        · refine zN h6 ?_
          refine AE_exit ?_
          refine AE_seqX ?_
          refine AE_seqX ?_
          refine AE_blkH ?_
          refine AE_seqN ?_
          refine zs hT [4] [(4, (aI v5))] ?_
          refine AE_ret ?_
          refine zK [4] [(4, (aI v5))] ?_
          simp only [Option.some.injEq] at h
          subst h
          exact zEnd

theorem F16_all (K0 : Nat) : (∀ (v1 : (List T69)) (v2 : Int) (r1 : Int), F16 K0 v1 v2 = some (r1) → Fn prog 16 [(.sl (l69 v1)), (aI v2)] [] (aI r1) []) := by
  induction K0 using Nat.strongRecOn with
  | ind K0 ih => exact F16_step K0 (fun k hk => (ih k hk))

theorem F16_ok (K0 : Nat) : ∀ (v1 : (List T69)) (v2 : Int) (r1 : Int), F16 K0 v1 v2 = some (r1) → Fn prog 16 [(.sl (l69 v1)), (aI v2)] [] (aI r1) [] := (F16_all K0)

mutual
def F83 : Nat → (List T57) → Option ((List T57))
  | 0, _ => none
  | k + 1, v1 =>
    F83_l0 k v1 0 []
def F83_l0 : Nat → (List T57) → Int → (List T57) → Option ((List T57))
  | 0, _, _, _ => none
  | k1 + 1, v1, v2, v3 =>
    (bif (decide (v2 < ((l57 v1).length : Int))) then
      ((idx v1 v2).bind fun ⟨v4, v5, v6, v7, v8, v9⟩ =>
        ((F83 k1 v8).bind fun v10 =>
          ((appL 80 v3 [(T57.mk v4 v5 v6 v7 v10 0)]).bind fun v11 =>
            F83_l0 k1 v1 (IntKind.wrap .i64 (v2 + 1)) v11)))
    else
      some (v3))
end

theorem F83_step (K0 : Nat) (ih_F83 : ∀ k, k < K0 → ∀ (v1 : (List T57)) (r1 : (List T57)), F83 k v1 = some (r1) → Fn prog 83 [(.sl (l57 v1))] [] (.sl (l57 r1)) []) : ∀ (v1 : (List T57)) (r1 : (List T57)), F83 K0 v1 = some (r1) → Fn prog 83 [(.sl (l57 v1))] [] (.sl (l57 r1)) [] := by
  intro v1 r1 h
  cases K0 with
  | zero => rw [F83] at h; cases h
  | succ k =>
    have hk : k < k + 1 := Nat.lt_succ_self k
    rw [F83] at h
    refine Fn_bodyK hT Go.Proofs.Try.func83 (c := Go.Proofs.Try.f83.body.getD .skip) (by kernel_rfl) (by kernel_rfl) (by kernel_rfl) ?_
    refine zs hT [0] [(0, (.sl (l57 v1)))] ?_
    refine zs hT [0, 3] [(0, (.sl (l57 v1))), (3, .nil)] ?_
    refine AW_seq ?_
    refine zs hT [3, 6, 7, 8] [(3, .nil), (6, (.sl (l57 v1))), (7, (aI ((l57 v1).length : Int))), (8, (aI 0))] ?_
    refine AW_block ?_
    refine zKw [3, 6, 7, 8] [(3, .nil), (6, (.sl (l57 v1))), (7, (aI ((l57 v1).length : Int))), (8, (aI 0))] ?_
    refine AW_gh (Gh.row false 58 6 (xs := l57 []) rfl (by kernel_rfl) (L' := [.row false 58 6 (l57 [])]) (by kernel_rfl)) ?_
    refine AW_weak (env' := [(3, (.gr 0 (l57 []).length)), (6, (.sl (l57 v1))), (7, (aI ((l57 v1).length : Int))), (8, (aI 0))]) (Sub.cons (by have e : aget [(3, .nil), (6, (.sl (l57 v1))), (7, (aI ((l57 v1).length : Int))), (8, (aI 0))] 3 = .nil := (by kernel_rfl); rw [e]; exact (Weak.void (mu := false) (e := 58) (k := 6) (xs := l57 []) (by kernel_rfl) rfl rfl)) (Sub.keep (by kernel_rfl) (Sub.keep (by kernel_rfl) (Sub.keep (by kernel_rfl) Sub.nil)))) ?_
    refine AW_loop (fun n env L => n ≤ k ∧ ∃ (v2 : Int) (v3 : (List T57)), env = [(3, (.gr 0 (l57 v3).length)), (6, (.sl (l57 v1))), (7, (aI ((l57 v1).length : Int))), (8, (aI v2))] ∧ L = [.row false 58 6 (l57 v3)] ∧ F83_l0 n v1 v2 v3 = some (r1)) k ⟨Nat.le_refl _, 0, [], rfl, rfl, h⟩ ?_
    rintro n _ _ ⟨hn, v2, v3, rfl, rfl, h⟩
    cases n with
    | zero => rw [F83_l0] at h; cases h
    | succ k1 =>
      have h2 : k1 < (k + 1) := by omega
      rw [F83_l0] at h
      refine zs hT [3, 6, 7, 8, 9] [(3, (.gr 0 (l57 v3).length)), (6, (.sl (l57 v1))), (7, (aI ((l57 v1).length : Int))), (8, (aI v2)), (9, (.bool (decide (v2 < ((l57 v1).length : Int)))))] ?_
      refine AW_seq ?_
      rcases bif_split h with ⟨h3, h⟩ | ⟨h3, h⟩
      · refine zT h3 ?_
        refine AE_skip ?_
        refine AE_seqN ?_
        refine AW_seq ?_
        refine AW_block ?_
        refine AW_seq ?_
        obtain ⟨⟨v4, v5, v6, v7, v8, v9⟩, h4, h⟩ := bsm h
        try dsimp only at h
        refine AW_reg ?_
        refine zO (jX hT 6 (i57 h4)) ?_
        refine zE hT 3 [3, 5, 6, 7, 8] [(3, (.gr 0 (l57 v3).length)), (5, (.ptr 1 0)), (6, (.sl (l57 v1))), (7, (aI ((l57 v1).length : Int))), (8, (aI v2))] [.row false 58 6 (l57 v3), .cells [(aI v4), (.str v5), (aI v6), (.str v7), (.sl (l57 v8)), (aI v9)]] ?_
        refine AE_seqN ?_
        refine AW_seq ?_
        obtain ⟨v10, h5, h⟩ := bsm h
        try dsimp only at h
        refine AW_reg ?_
        refine zm hT 2 [3, 5, 6, 7, 8, 13] [(3, (.gr 0 (l57 v3).length)), (5, (.ptr 1 0)), (6, (.sl (l57 v1))), (7, (aI ((l57 v1).length : Int))), (8, (aI v2)), (13, (.sl (l57 v8)))] ?_
        refine zO (jP Go.Proofs.Try.func83 (ih_F83 k1 h2 v8 v10 h5)) ?_
        refine zE hT 4 [3, 5, 6, 7, 8] [(3, (.gr 0 (l57 v3).length)), (5, (.ptr 1 0)), (6, (.sl (l57 v1))), (7, (aI ((l57 v1).length : Int))), (8, (aI v2))] [.row false 58 6 (l57 v3), .cells [(aI v4), (.str v5), (aI v6), (.str v7), (.sl (l57 v10)), (aI 0)]] ?_
        refine AE_seqN ?_
        obtain ⟨v11, h6, h⟩ := bsm h
        try dsimp only at h
        refine AW_reg ?_
        refine zm hT 2 [3, 6, 7, 8, 17, 18] [(3, (.gr 0 (l57 v3).length)), (6, (.sl (l57 v1))), (7, (aI ((l57 v1).length : Int))), (8, (aI v2)), (17, (.gr 0 (l57 v3).length)), (18, (.agg [(aI v4), (.str v5), (aI v6), (.str v7), (.sl (l57 v10)), (aI 0)]))] ?_
        refine zO (jL hT 58 6 [(.agg [(aI v4), (.str v5), (aI v6), (.str v7), (.sl (l57 v10)), (aI 0)])] 2) ?_
        refine zO (jA hT l57_map e57_k e57_one [.row false 58 6 (l57 v11), .cells [(aI v4), (.str v5), (aI v6), (.str v7), (.sl (l57 v10)), (aI 0)]] false 58 (.gr 0 (l57 v3).length) (.sl (l57 [(T57.mk v4 v5 v6 v7 v10 0)])) 0 (l57 v3).length Weak.refl rfl Weak.refl h6) ?_
        refine ze hT 1 [3, 6, 7, 8] [(3, (.gr 0 (l57 v11).length)), (6, (.sl (l57 v1))), (7, (aI ((l57 v1).length : Int))), (8, (aI v2))] ?_
        refine AE_blkN ?_
        refine AE_seqN ?_
        refine zr hT [3, 6, 7, 8] [(3, (.gr 0 (l57 v11).length)), (6, (.sl (l57 v1))), (7, (aI ((l57 v1).length : Int))), (8, (aI (IntKind.wrap .i64 (v2 + 1))))] ?_
        refine zK [3, 6, 7, 8] [(3, (.gr 0 (l57 v11).length)), (6, (.sl (l57 v1))), (7, (aI ((l57 v1).length : Int))), (8, (aI (IntKind.wrap .i64 (v2 + 1))))] ?_
        refine zD 1 [.row false 58 6 (l57 v11)] ?_
        exact AE_done ⟨k1, by omega, by omega, (IntKind.wrap .i64 (v2 + 1)), v11, rfl, rfl, h⟩
      · refine zN h3 ?_
        refine AE_exit ?_
        refine AE_seqX ?_
        refine AE_seqX ?_
        refine AE_blkH ?_
        refine AE_seqN ?_
        refine zs hT [2] [(2, (.gr 0 (l57 v3).length))] ?_
        refine AE_ret ?_
        refine zK [2] [(2, (.gr 0 (l57 v3).length))] ?_
        refine AE_weak (env' := [(2, (.sl (l57 v3)))]) (Sub.cons (by have e : aget [(2, (.gr 0 (l57 v3).length))] 2 = (.gr 0 (l57 v3).length) := (by kernel_rfl); rw [e]; exact (Weak.view (e := 58) (k := 6) (xs := l57 v3) (by kernel_rfl) rfl)) Sub.nil) ?_
        simp only [Option.some.injEq] at h
        subst h
        exact zEnd

theorem F83_all (K0 : Nat) : (∀ (v1 : (List T57)) (r1 : (List T57)), F83 K0 v1 = some (r1) → Fn prog 83 [(.sl (l57 v1))] [] (.sl (l57 r1)) []) := by
  induction K0 using Nat.strongRecOn with
  | ind K0 ih => exact F83_step K0 (fun k hk => (ih k hk))

theorem F83_ok (K0 : Nat) : ∀ (v1 : (List T57)) (r1 : (List T57)), F83 K0 v1 = some (r1) → Fn prog 83 [(.sl (l57 v1))] [] (.sl (l57 r1)) [] := (F83_all K0)

mutual
def F41 : Nat → (List T69) → Option ((List T69))
  | 0, _ => none
  | k + 1, v1 =>
    F41_l0 k v1 0 []
def F41_l0 : Nat → (List T69) → Int → (List T69) → Option ((List T69))
  | 0, _, _, _ => none
  | k1 + 1, v1, v2, v3 =>
    (bif (decide (v2 < ((l69 v1).length : Int))) then
      ((idx v1 v2).bind fun ⟨v4, v5, v6, v7, v8, v9, v10⟩ =>
        ((F83 k1 v7).bind fun v11 =>
          ((F41 k1 v8).bind fun v12 =>
            ((F41 k1 v9).bind fun v13 =>
              ((appL 120 v3 [(T69.mk v4 v5 v6 v11 v12 v13 0)]).bind fun v14 =>
                F41_l0 k1 v1 (IntKind.wrap .i64 (v2 + 1)) v14)))))
    else
      some (v3))
end

theorem F41_step (K0 : Nat) (ih_F41 : ∀ k, k < K0 → ∀ (v1 : (List T69)) (r1 : (List T69)), F41 k v1 = some (r1) → Fn prog 41 [(.sl (l69 v1))] [] (.sl (l69 r1)) []) : ∀ (v1 : (List T69)) (r1 : (List T69)), F41 K0 v1 = some (r1) → Fn prog 41 [(.sl (l69 v1))] [] (.sl (l69 r1)) [] := by
  intro v1 r1 h
  cases K0 with
  | zero => rw [F41] at h; cases h
  | succ k =>
    have hk : k < k + 1 := Nat.lt_succ_self k
    rw [F41] at h
    refine Fn_bodyK hT Go.Proofs.Try.func41 (c := Go.Proofs.Try.f41.body.getD .skip) (by kernel_rfl) (by kernel_rfl) (by kernel_rfl) ?_
    refine zs hT [0] [(0, (.sl (l69 v1)))] ?_
    refine zs hT [0, 3] [(0, (.sl (l69 v1))), (3, .nil)] ?_
    refine AW_seq ?_
    refine zs hT [3, 6, 7, 8] [(3, .nil), (6, (.sl (l69 v1))), (7, (aI ((l69 v1).length : Int))), (8, (aI 0))] ?_
    refine AW_block ?_
    refine zKw [3, 6, 7, 8] [(3, .nil), (6, (.sl (l69 v1))), (7, (aI ((l69 v1).length : Int))), (8, (aI 0))] ?_
    refine AW_gh (Gh.row false 70 7 (xs := l69 []) rfl (by kernel_rfl) (L' := [.row false 70 7 (l69 [])]) (by kernel_rfl)) ?_
    refine AW_weak (env' := [(3, (.gr 0 (l69 []).length)), (6, (.sl (l69 v1))), (7, (aI ((l69 v1).length : Int))), (8, (aI 0))]) (Sub.cons (by have e : aget [(3, .nil), (6, (.sl (l69 v1))), (7, (aI ((l69 v1).length : Int))), (8, (aI 0))] 3 = .nil := (by kernel_rfl); rw [e]; exact (Weak.void (mu := false) (e := 70) (k := 7) (xs := l69 []) (by kernel_rfl) rfl rfl)) (Sub.keep (by kernel_rfl) (Sub.keep (by kernel_rfl) (Sub.keep (by kernel_rfl) Sub.nil)))) ?_
    refine AW_loop (fun n env L => n ≤ k ∧ ∃ (v2 : Int) (v3 : (List T69)), env = [(3, (.gr 0 (l69 v3).length)), (6, (.sl (l69 v1))), (7, (aI ((l69 v1).length : Int))), (8, (aI v2))] ∧ L = [.row false 70 7 (l69 v3)] ∧ F41_l0 n v1 v2 v3 = some (r1)) k ⟨Nat.le_refl _, 0, [], rfl, rfl, h⟩ ?_
    rintro n _ _ ⟨hn, v2, v3, rfl, rfl, h⟩
    cases n with
    | zero => rw [F41_l0] at h; cases h
    | succ k1 =>
      have h2 : k1 < (k + 1) := by omega
      rw [F41_l0] at h
      refine zs hT [3, 6, 7, 8, 9] [(3, (.gr 0 (l69 v3).length)), (6, (.sl (l69 v1))), (7, (aI ((l69 v1).length : Int))), (8, (aI v2)), (9, (.bool (decide (v2 < ((l69 v1).length : Int)))))] ?_
      refine AW_seq ?_
      rcases bif_split h with ⟨h3, h⟩ | ⟨h3, h⟩
      · refine zT h3 ?_
        refine AE_skip ?_
        refine AE_seqN ?_
        refine AW_seq ?_
        refine AW_block ?_
        refine AW_seq ?_
        obtain ⟨⟨v4, v5, v6, v7, v8, v9, v10⟩, h4, h⟩ := bsm h
        try dsimp only at h
        refine AW_reg ?_
        refine zO (jX hT 7 (i69 h4)) ?_
        refine zE hT 3 [3, 5, 6, 7, 8] [(3, (.gr 0 (l69 v3).length)), (5, (.ptr 1 0)), (6, (.sl (l69 v1))), (7, (aI ((l69 v1).length : Int))), (8, (aI v2))] [.row false 70 7 (l69 v3), .cells [(aI v4), (.str v5), (.str v6), (.sl (l57 v7)), (.sl (l69 v8)), (.sl (l69 v9)), (aI v10)]] ?_
        refine AE_seqN ?_
        refine AW_seq ?_
        obtain ⟨v11, h5, h⟩ := bsm h
        try dsimp only at h
        obtain ⟨v12, h6, h⟩ := bsm h
        try dsimp only at h
        obtain ⟨v13, h7, h⟩ := bsm h
        try dsimp only at h
        refine AW_drx hmix [⟨(.ptr 1 3), [], 0, 0, false⟩, ⟨(.sl (l57 v7)), [0], 0, 0, false⟩, ⟨(.sl (l57 v11)), [0, 1], 0, 0, false⟩, ⟨(.ptr 1 4), [], 0, 0, false⟩, ⟨(.sl (l69 v8)), [3], 0, 0, false⟩, ⟨(.sl (l69 v12)), [0, 1, 2, 3, 4], 0, 0, false⟩, ⟨(.ptr 1 5), [], 0, 0, false⟩, ⟨(.sl (l69 v9)), [6], 0, 0, false⟩, ⟨(.sl (l69 v13)), [0, 1, 2, 3, 4, 5, 6, 7], 0, 0, false⟩, ⟨(.ptr 1 6), [0, 1, 3, 4, 6, 7], 0, 0, false⟩, ⟨.any, [0, 1, 2, 3, 4, 5, 6, 7, 8, 9], 0, 0, true⟩, ⟨(.ptr 1 3), [0, 1, 2, 3, 4, 5, 6, 7, 8, 9, 10], 1, 1, false⟩, ⟨.any, [0, 1, 2, 3, 4, 5, 6, 7, 8, 9, 10, 11], 1, 1, true⟩, ⟨(.ptr 1 4), [0, 1, 2, 3, 4, 5, 6, 7, 8, 9, 10, 11, 12], 2, 2, false⟩, ⟨.any, [0, 1, 2, 3, 4, 5, 6, 7, 8, 9, 10, 11, 12, 13], 2, 2, true⟩, ⟨(.ptr 1 5), [0, 1, 2, 3, 4, 5, 6, 7, 8, 9, 10, 11, 12, 13, 14], 3, 3, false⟩, ⟨.any, [0, 1, 2, 3, 4, 5, 6, 7, 8, 9, 10, 11, 12, 13, 14, 15], 3, 3, true⟩] [10, 12, 14, 16] (fun p => match p with | 0 => [.row false 70 7 (l69 v3), .cells [(aI v4), (.str v5), (.str v6), (.sl (l57 v7)), (.sl (l69 v8)), (.sl (l69 v9)), (aI v10)]] | 1 => [.row false 70 7 (l69 v3), .cells [(aI v4), (.str v5), (.str v6), (.sl (l57 v7)), (.sl (l69 v8)), (.sl (l69 v9)), (aI 0)]] | 2 => [.row false 70 7 (l69 v3), .cells [(aI v4), (.str v5), (.str v6), (.sl (l57 v11)), (.sl (l69 v8)), (.sl (l69 v9)), (aI 0)]] | 3 => [.row false 70 7 (l69 v3), .cells [(aI v4), (.str v5), (.str v6), (.sl (l57 v11)), (.sl (l69 v12)), (.sl (l69 v9)), (aI 0)]] | _ => [.row false 70 7 (l69 v3), .cells [(aI v4), (.str v5), (.str v6), (.sl (l57 v11)), (.sl (l69 v12)), (.sl (l69 v13)), (aI 0)]]) [3, 5, 6, 7, 8] [(3, (.gr 0 (l69 v3).length)), (5, (.ptr 1 0)), (6, (.sl (l69 v1))), (7, (aI ((l69 v1).length : Int))), (8, (aI v2))] [.row false 70 7 (l69 v3), .cells [(aI v4), (.str v5), (.str v6), (.sl (l57 v11)), (.sl (l69 v12)), (.sl (l69 v13)), (aI 0)]] (by kernel_rfl) rfl rfl (by kernel_rfl) ?_ ?_
        · refine SA_plain hT 2 (by kernel_rfl) ?_
          refine SA_tell (v := (.sl (l57 v11))) (by kernel_rfl) (by kernel_rfl) (by kernel_rfl) (fun L => (jP Go.Proofs.Try.func83 (F83_ok k1 v7 v11 h5))) ?_
          refine SA_plain hT 2 (by kernel_rfl) ?_
          refine SA_tell (v := (.sl (l69 v12))) (by kernel_rfl) (by kernel_rfl) (by kernel_rfl) (fun L => (jP Go.Proofs.Try.func41 (ih_F41 k1 h2 v8 v12 h6))) ?_
          refine SA_plain hT 2 (by kernel_rfl) ?_
          refine SA_tell (v := (.sl (l69 v13))) (by kernel_rfl) (by kernel_rfl) (by kernel_rfl) (fun L => (jP Go.Proofs.Try.func41 (ih_F41 k1 h2 v9 v13 h7))) ?_
          refine SA_plain hT 8 (by kernel_rfl) ?_
          exact SA_end (by kernel_rfl)
        refine AE_seqN ?_
        obtain ⟨v14, h8, h⟩ := bsm h
        try dsimp only at h
        refine AW_reg ?_
        refine zm hT 2 [3, 6, 7, 8, 25, 26] [(3, (.gr 0 (l69 v3).length)), (6, (.sl (l69 v1))), (7, (aI ((l69 v1).length : Int))), (8, (aI v2)), (25, (.gr 0 (l69 v3).length)), (26, (.agg [(aI v4), (.str v5), (.str v6), (.sl (l57 v11)), (.sl (l69 v12)), (.sl (l69 v13)), (aI 0)]))] ?_
        refine zO (jL hT 70 7 [(.agg [(aI v4), (.str v5), (.str v6), (.sl (l57 v11)), (.sl (l69 v12)), (.sl (l69 v13)), (aI 0)])] 2) ?_
        refine zO (jA hT l69_map e69_k e69_one [.row false 70 7 (l69 v14), .cells [(aI v4), (.str v5), (.str v6), (.sl (l57 v11)), (.sl (l69 v12)), (.sl (l69 v13)), (aI 0)]] false 70 (.gr 0 (l69 v3).length) (.sl (l69 [(T69.mk v4 v5 v6 v11 v12 v13 0)])) 0 (l69 v3).length Weak.refl rfl Weak.refl h8) ?_
        refine ze hT 1 [3, 6, 7, 8] [(3, (.gr 0 (l69 v14).length)), (6, (.sl (l69 v1))), (7, (aI ((l69 v1).length : Int))), (8, (aI v2))] ?_
        refine AE_blkN ?_
        refine AE_seqN ?_
        refine zr hT [3, 6, 7, 8] [(3, (.gr 0 (l69 v14).length)), (6, (.sl (l69 v1))), (7, (aI ((l69 v1).length : Int))), (8, (aI (IntKind.wrap .i64 (v2 + 1))))] ?_
        refine zK [3, 6, 7, 8] [(3, (.gr 0 (l69 v14).length)), (6, (.sl (l69 v1))), (7, (aI ((l69 v1).length : Int))), (8, (aI (IntKind.wrap .i64 (v2 + 1))))] ?_
        refine zD 1 [.row false 70 7 (l69 v14)] ?_
        exact AE_done ⟨k1, by omega, by omega, (IntKind.wrap .i64 (v2 + 1)), v14, rfl, rfl, h⟩
      · refine zN h3 ?_
        refine AE_exit ?_
        refine AE_seqX ?_
        refine AE_seqX ?_
        refine AE_blkH ?_
        refine AE_seqN ?_
        refine zs hT [2] [(2, (.gr 0 (l69 v3).length))] ?_
        refine AE_ret ?_
        refine zK [2] [(2, (.gr 0 (l69 v3).length))] ?_
        refine AE_weak (env' := [(2, (.sl (l69 v3)))]) (Sub.cons (by have e : aget [(2, (.gr 0 (l69 v3).length))] 2 = (.gr 0 (l69 v3).length) := (by kernel_rfl); rw [e]; exact (Weak.view (e := 70) (k := 7) (xs := l69 v3) (by kernel_rfl) rfl)) Sub.nil) ?_
        simp only [Option.some.injEq] at h
        subst h
        exact zEnd

theorem F41_all (K0 : Nat) : (∀ (v1 : (List T69)) (r1 : (List T69)), F41 K0 v1 = some (r1) → Fn prog 41 [(.sl (l69 v1))] [] (.sl (l69 r1)) []) := by
  induction K0 using Nat.strongRecOn with
  | ind K0 ih => exact F41_step K0 (fun k hk => (ih k hk))

theorem F41_ok (K0 : Nat) : ∀ (v1 : (List T69)) (r1 : (List T69)), F41 K0 v1 = some (r1) → Fn prog 41 [(.sl (l69 v1))] [] (.sl (l69 r1)) [] := (F41_all K0)

def F17_l1 : Nat → (List T34) → Int → (List T76) → Int → (List T34) → Option (Int × (List T76) × (List T34))
  | 0, _, _, _, _, _ => none
  | k8 + 1, v3, v1, v6, v12, v13 =>
    (bif (decide (v12 < ((l34 v3).length : Int))) then
      ((idx v3 v12).bind fun ⟨v14, v15, v16⟩ =>
        ((F41 k8 v15).bind fun v17 =>
          ((appL 48 v13 [(T34.mk v14 v17 0)]).bind fun v18 =>
            F17_l1 k8 v3 v1 v6 (IntKind.wrap .i64 (v12 + 1)) v18)))
    else
      some (v1, v6, v13))

def F17_l0 : Nat → (List T76) → Int → (List T34) → Int → (List T76) → Option (Int × (List T76) × (List T34))
  | 0, _, _, _, _, _ => none
  | k3 + 1, v2, v1, v3, v5, v6 =>
    (bif (decide (v5 < ((l76 v2).length : Int))) then
      ((idx v2 v5).bind fun ⟨v7, v8, v9, v10⟩ =>
        ((appL 40 v6 [(T76.mk v7 v8 v9 0)]).bind fun v11 =>
          F17_l0 k3 v2 v1 v3 (IntKind.wrap .i64 (v5 + 1)) v11))
    else
      F17_l1 k3 v3 v1 v6 0 [])

def F17 (k : Nat) (v1 : Int) (v2 : (List T76)) (v3 : (List T34)) : Option (Int × (List T76) × (List T34)) :=
  ((F14 k v1 v2 v3).bind fun v4 =>
    (bif (v4 != 0) then
      some (0, [], [])
    else
      F17_l0 k v2 v1 v3 0 []))

theorem F17_ok (k : Nat) : ∀ (v1 : Int) (v2 : (List T76)) (v3 : (List T34)) (r1 : Int) (r2 : (List T76)) (r3 : (List T34)), F17 k v1 v2 v3 = some (r1, r2, r3) → Fn prog 17 [(.agg [(aI v1), (.sl (l76 v2)), (.sl (l34 v3))])] [] (.agg [(aI r1), (.sl (l76 r2)), (.sl (l34 r3))]) [] := by
  intro v1 v2 v3 r1 r2 r3 h
  rw [F17] at h
  refine Fn_bodyK hT Go.Proofs.Try.func17 (c := Go.Proofs.Try.f17.body.getD .skip) (by kernel_rfl) (by kernel_rfl) (by kernel_rfl) ?_
  refine zS hT [1, 2] [(1, (.ptr 0 0)), (2, (.ptr 1 0))] [.cells [(aI v1), (.sl (l76 v2)), (.sl (l34 v3))], .cells [(aI 0), .nil, .nil]] ?_
  refine AW_seq ?_
  refine AW_seq ?_
  obtain ⟨v4, h1, h⟩ := bsm h
  try dsimp only at h
  refine AW_reg ?_
  refine zm hT 1 [1, 2, 8] [(1, (.ptr 0 0)), (2, (.ptr 1 0)), (8, (.agg [(aI v1), (.sl (l76 v2)), (.sl (l34 v3))]))] ?_
  refine zO (jP Go.Proofs.Try.func14 (F14_ok k v1 v2 v3 v4 h1)) ?_
  refine ze hT 1 [1, 2, 10] [(1, (.ptr 0 0)), (2, (.ptr 1 0)), (10, (.bool (v4 != 0)))] ?_
  refine AE_seqN ?_
  rcases bif_split h with ⟨h2, h⟩ | ⟨h2, h⟩
  · refine zT h2 ?_
    refine zs hT [2] [(2, (.ptr 1 0))] ?_
    refine AE_ret ?_
    refine AE_seqR ?_
    refine zK [2] [(2, (.ptr 1 0))] ?_
    refine AE_gh (Gh.recell 1 (cs := [(aI 0), .nil, .nil]) (cs' := [(aI 0), (.sl (l76 [])), (.sl (l34 []))]) (by kernel_rfl) ⟨Weak.refl, Weak.nil, Weak.nil, trivial⟩ (by kernel_rfl) (L' := [.cells [(aI v1), (.sl (l76 v2)), (.sl (l34 v3))], .cells [(aI 0), (.sl (l76 [])), (.sl (l34 []))]]) (by kernel_rfl)) ?_
    simp only [Option.some.injEq, Prod.mk.injEq] at h
    obtain ⟨rfl, rfl, rfl⟩ := h
    exact zEnd
  · refine zN h2 ?_
    refine AE_skip ?_
    refine AE_seqN ?_
    refine zS hT [1, 2, 3] [(1, (.ptr 0 0)), (2, (.ptr 1 0)), (3, (.ptr 2 0))] [.cells [(aI v1), (.sl (l76 v2)), (.sl (l34 v3))], .cells [(aI 0), .nil, .nil], .cells [(aI v1), .nil, .nil]] ?_
    refine AW_seq ?_
    refine zs hT [1, 2, 3, 16, 17, 18] [(1, (.ptr 0 0)), (2, (.ptr 1 0)), (3, (.ptr 2 0)), (16, (.sl (l76 v2))), (17, (aI ((l76 v2).length : Int))), (18, (aI 0))] ?_
    refine AW_block ?_
    refine zKw [1, 2, 3, 16, 17, 18] [(1, (.ptr 0 0)), (2, (.ptr 1 0)), (3, (.ptr 2 0)), (16, (.sl (l76 v2))), (17, (aI ((l76 v2).length : Int))), (18, (aI 0))] ?_
    refine AW_gh (Gh.row false 77 4 (xs := l76 []) rfl (by kernel_rfl) (L' := [.cells [(aI v1), (.sl (l76 v2)), (.sl (l34 v3))], .cells [(aI 0), .nil, .nil], .cells [(aI v1), .nil, .nil], .row false 77 4 (l76 [])]) (by kernel_rfl)) ?_
    refine AW_gh (Gh.recell 2 (cs := [(aI v1), .nil, .nil]) (cs' := [(aI v1), (.gr 3 (l76 []).length), .nil]) (by kernel_rfl) ⟨Weak.refl, (Weak.void (mu := false) (e := 77) (k := 4) (xs := l76 []) (by kernel_rfl) rfl rfl), Weak.refl, trivial⟩ (by kernel_rfl) (L' := [.cells [(aI v1), (.sl (l76 v2)), (.sl (l34 v3))], .cells [(aI 0), .nil, .nil], .cells [(aI v1), (.gr 3 (l76 []).length), .nil], .row false 77 4 (l76 [])]) (by kernel_rfl)) ?_
    refine AW_loop (fun n env L => n ≤ k ∧ ∃ (v5 : Int) (v6 : (List T76)), env = [(1, (.ptr 0 0)), (2, (.ptr 1 0)), (3, (.ptr 2 0)), (16, (.sl (l76 v2))), (17, (aI ((l76 v2).length : Int))), (18, (aI v5))] ∧ L = [.cells [(aI v1), (.sl (l76 v2)), (.sl (l34 v3))], .cells [(aI 0), .nil, .nil], .cells [(aI v1), (.gr 3 (l76 v6).length), .nil], .row false 77 4 (l76 v6)] ∧ F17_l0 n v2 v1 v3 v5 v6 = some (r1, r2, r3)) k ⟨Nat.le_refl _, 0, [], rfl, rfl, h⟩ ?_
    rintro n _ _ ⟨hn, v5, v6, rfl, rfl, h⟩
    cases n with
    | zero => rw [F17_l0] at h; cases h
    | succ k3 =>
      rw [F17_l0] at h
      refine zs hT [1, 2, 3, 16, 17, 18, 19] [(1, (.ptr 0 0)), (2, (.ptr 1 0)), (3, (.ptr 2 0)), (16, (.sl (l76 v2))), (17, (aI ((l76 v2).length : Int))), (18, (aI v5)), (19, (.bool (decide (v5 < ((l76 v2).length : Int)))))] ?_
      refine AW_seq ?_
      rcases bif_split h with ⟨h5, h⟩ | ⟨h5, h⟩
      · refine zT h5 ?_
        refine AE_skip ?_
        refine AE_seqN ?_
        refine AW_seq ?_
        refine AW_block ?_
        refine AW_seq ?_
        obtain ⟨⟨v7, v8, v9, v10⟩, h6, h⟩ := bsm h
        try dsimp only at h
        refine AW_reg ?_
        refine zO (jX hT 4 (i76 h6)) ?_
        refine zE hT 3 [1, 2, 3, 5, 16, 17, 18] [(1, (.ptr 0 0)), (2, (.ptr 1 0)), (3, (.ptr 2 0)), (5, (.ptr 4 0)), (16, (.sl (l76 v2))), (17, (aI ((l76 v2).length : Int))), (18, (aI v5))] [.cells [(aI v1), (.sl (l76 v2)), (.sl (l34 v3))], .cells [(aI 0), .nil, .nil], .cells [(aI v1), (.gr 3 (l76 v6).length), .nil], .row false 77 4 (l76 v6), .cells [(aI v7), (.str v8), (aI v9), (aI v10)]] ?_
        refine AE_seqN ?_
        refine zS hT [1, 2, 3, 5, 16, 17, 18] [(1, (.ptr 0 0)), (2, (.ptr 1 0)), (3, (.ptr 2 0)), (5, (.ptr 4 0)), (16, (.sl (l76 v2))), (17, (aI ((l76 v2).length : Int))), (18, (aI v5))] [.cells [(aI v1), (.sl (l76 v2)), (.sl (l34 v3))], .cells [(aI 0), .nil, .nil], .cells [(aI v1), (.gr 3 (l76 v6).length), .nil], .row false 77 4 (l76 v6), .cells [(aI v7), (.str v8), (aI v9), (aI 0)]] ?_
        obtain ⟨v11, h7, h⟩ := bsm h
        try dsimp only at h
        refine AW_reg ?_
        refine zm hT 3 [1, 2, 3, 16, 17, 18, 24, 25] [(1, (.ptr 0 0)), (2, (.ptr 1 0)), (3, (.ptr 2 0)), (16, (.sl (l76 v2))), (17, (aI ((l76 v2).length : Int))), (18, (aI v5)), (24, (.gr 3 (l76 v6).length)), (25, (.agg [(aI v7), (.str v8), (aI v9), (aI 0)]))] ?_
        refine zO (jL hT 77 4 [(.agg [(aI v7), (.str v8), (aI v9), (aI 0)])] 5) ?_
        refine zO (jA hT l76_map e76_k e76_one [.cells [(aI v1), (.sl (l76 v2)), (.sl (l34 v3))], .cells [(aI 0), .nil, .nil], .cells [(aI v1), (.gr 3 (l76 v6).length), .nil], .row false 77 4 (l76 v11), .cells [(aI v7), (.str v8), (aI v9), (aI 0)]] false 77 (.gr 3 (l76 v6).length) (.sl (l76 [(T76.mk v7 v8 v9 0)])) 3 (l76 v6).length Weak.refl rfl Weak.refl h7) ?_
        refine zE hT 2 [1, 2, 3, 16, 17, 18] [(1, (.ptr 0 0)), (2, (.ptr 1 0)), (3, (.ptr 2 0)), (16, (.sl (l76 v2))), (17, (aI ((l76 v2).length : Int))), (18, (aI v5))] [.cells [(aI v1), (.sl (l76 v2)), (.sl (l34 v3))], .cells [(aI 0), .nil, .nil], .cells [(aI v1), (.gr 3 (l76 v11).length), .nil], .row false 77 4 (l76 v11), .cells [(aI v7), (.str v8), (aI v9), (aI 0)]] ?_
        refine AE_blkN ?_
        refine AE_seqN ?_
        refine zr hT [1, 2, 3, 16, 17, 18] [(1, (.ptr 0 0)), (2, (.ptr 1 0)), (3, (.ptr 2 0)), (16, (.sl (l76 v2))), (17, (aI ((l76 v2).length : Int))), (18, (aI (IntKind.wrap .i64 (v5 + 1))))] ?_
        refine zK [1, 2, 3, 16, 17, 18] [(1, (.ptr 0 0)), (2, (.ptr 1 0)), (3, (.ptr 2 0)), (16, (.sl (l76 v2))), (17, (aI ((l76 v2).length : Int))), (18, (aI (IntKind.wrap .i64 (v5 + 1))))] ?_
        refine zD 4 [.cells [(aI v1), (.sl (l76 v2)), (.sl (l34 v3))], .cells [(aI 0), .nil, .nil], .cells [(aI v1), (.gr 3 (l76 v11).length), .nil], .row false 77 4 (l76 v11)] ?_
        exact AE_done ⟨k3, by omega, by omega, (IntKind.wrap .i64 (v5 + 1)), v11, rfl, rfl, h⟩
      · refine zN h5 ?_
        refine AE_exit ?_
        refine AE_seqX ?_
        refine AE_seqX ?_
        refine AE_blkH ?_
        refine AE_seqN ?_
        refine AW_seq ?_
        refine zs hT [2, 3, 31, 32, 33] [(2, (.ptr 1 0)), (3, (.ptr 2 0)), (31, (.sl (l34 v3))), (32, (aI ((l34 v3).length : Int))), (33, (aI 0))] ?_
        refine AW_block ?_
        refine zKw [2, 3, 31, 32, 33] [(2, (.ptr 1 0)), (3, (.ptr 2 0)), (31, (.sl (l34 v3))), (32, (aI ((l34 v3).length : Int))), (33, (aI 0))] ?_
        refine AW_gh (Gh.row false 35 3 (xs := l34 []) rfl (by kernel_rfl) (L' := [.cells [(aI v1), (.sl (l76 v2)), (.sl (l34 v3))], .cells [(aI 0), .nil, .nil], .cells [(aI v1), (.gr 3 (l76 v6).length), .nil], .row false 77 4 (l76 v6), .row false 35 3 (l34 [])]) (by kernel_rfl)) ?_
        refine AW_gh (Gh.recell 2 (cs := [(aI v1), (.gr 3 (l76 v6).length), .nil]) (cs' := [(aI v1), (.gr 3 (l76 v6).length), (.gr 4 (l34 []).length)]) (by kernel_rfl) ⟨Weak.refl, Weak.refl, (Weak.void (mu := false) (e := 35) (k := 3) (xs := l34 []) (by kernel_rfl) rfl rfl), trivial⟩ (by kernel_rfl) (L' := [.cells [(aI v1), (.sl (l76 v2)), (.sl (l34 v3))], .cells [(aI 0), .nil, .nil], .cells [(aI v1), (.gr 3 (l76 v6).length), (.gr 4 (l34 []).length)], .row false 77 4 (l76 v6), .row false 35 3 (l34 [])]) (by kernel_rfl)) ?_
        refine AW_loop (fun n env L => n ≤ k3 ∧ ∃ (v12 : Int) (v13 : (List T34)), env = [(2, (.ptr 1 0)), (3, (.ptr 2 0)), (31, (.sl (l34 v3))), (32, (aI ((l34 v3).length : Int))), (33, (aI v12))] ∧ L = [.cells [(aI v1), (.sl (l76 v2)), (.sl (l34 v3))], .cells [(aI 0), .nil, .nil], .cells [(aI v1), (.gr 3 (l76 v6).length), (.gr 4 (l34 v13).length)], .row false 77 4 (l76 v6), .row false 35 3 (l34 v13)] ∧ F17_l1 n v3 v1 v6 v12 v13 = some (r1, r2, r3)) k3 ⟨Nat.le_refl _, 0, [], rfl, rfl, h⟩ ?_
        rintro n _ _ ⟨hn, v12, v13, rfl, rfl, h⟩
        cases n with
        | zero => rw [F17_l1] at h; cases h
        | succ k8 =>
          rw [F17_l1] at h
          refine zs hT [2, 3, 31, 32, 33, 34] [(2, (.ptr 1 0)), (3, (.ptr 2 0)), (31, (.sl (l34 v3))), (32, (aI ((l34 v3).length : Int))), (33, (aI v12)), (34, (.bool (decide (v12 < ((l34 v3).length : Int)))))] ?_
          refine AW_seq ?_
          rcases bif_split h with ⟨h10, h⟩ | ⟨h10, h⟩
          · refine zT h10 ?_
            refine AE_skip ?_
            refine AE_seqN ?_
            refine AW_seq ?_
            refine AW_block ?_
            refine AW_seq ?_
            obtain ⟨⟨v14, v15, v16⟩, h11, h⟩ := bsm h
            try dsimp only at h
            refine AW_reg ?_
            refine zO (jX hT 3 (i34 h11)) ?_
            refine zE hT 3 [2, 3, 7, 31, 32, 33] [(2, (.ptr 1 0)), (3, (.ptr 2 0)), (7, (.ptr 5 0)), (31, (.sl (l34 v3))), (32, (aI ((l34 v3).length : Int))), (33, (aI v12))] [.cells [(aI v1), (.sl (l76 v2)), (.sl (l34 v3))], .cells [(aI 0), .nil, .nil], .cells [(aI v1), (.gr 3 (l76 v6).length), (.gr 4 (l34 v13).length)], .row false 77 4 (l76 v6), .row false 35 3 (l34 v13), .cells [(.str v14), (.sl (l69 v15)), (aI v16)]] ?_
            refine AE_seqN ?_
            obtain ⟨v17, h12, h⟩ := bsm h
            try dsimp only at h
            obtain ⟨v18, h13, h⟩ := bsm h
            try dsimp only at h
            refine AW_drx hmix [⟨(.ptr 2 2), [], 0, 0, false⟩, ⟨(.gr 4 (l34 v13).length), [0], 0, 0, false⟩, ⟨(.ptr 5 0), [], 0, 0, false⟩, ⟨(.str v14), [2], 0, 0, false⟩, ⟨(.ptr 5 1), [], 0, 0, false⟩, ⟨(.sl (l69 v15)), [4], 0, 0, false⟩, ⟨(.sl (l69 v17)), [4, 5], 0, 0, false⟩, ⟨(.agg [(.str v14), (.sl (l69 v17)), (aI 0)]), [2, 3, 4, 5, 6], 0, 0, false⟩, ⟨(.sl (l34 [(T34.mk v14 v17 0)])), [2, 3, 4, 5, 6, 7], 0, 0, false⟩, ⟨(.gr 4 (l34 v18).length), [0, 1, 2, 3, 4, 5, 6, 7, 8], 0, 0, true⟩, ⟨(.ptr 2 2), [0, 1, 2, 3, 4, 5, 6, 7, 8, 9], 1, 1, false⟩, ⟨.any, [0, 1, 2, 3, 4, 5, 6, 7, 8, 9, 10], 1, 1, true⟩] [9, 11] (fun p => match p with | 0 => [.cells [(aI v1), (.sl (l76 v2)), (.sl (l34 v3))], .cells [(aI 0), .nil, .nil], .cells [(aI v1), (.gr 3 (l76 v6).length), (.gr 4 (l34 v13).length)], .row false 77 4 (l76 v6), .row false 35 3 (l34 v13), .cells [(.str v14), (.sl (l69 v15)), (aI v16)]] | 1 => [.cells [(aI v1), (.sl (l76 v2)), (.sl (l34 v3))], .cells [(aI 0), .nil, .nil], .cells [(aI v1), (.gr 3 (l76 v6).length), (.gr 4 (l34 v13).length)], .row false 77 4 (l76 v6), .row false 35 3 (l34 v18), .cells [(.str v14), (.sl (l69 v15)), (aI v16)]] | _ => [.cells [(aI v1), (.sl (l76 v2)), (.sl (l34 v3))], .cells [(aI 0), .nil, .nil], .cells [(aI v1), (.gr 3 (l76 v6).length), (.gr 4 (l34 v18).length)], .row false 77 4 (l76 v6), .row false 35 3 (l34 v18), .cells [(.str v14), (.sl (l69 v15)), (aI v16)]]) [2, 3, 31, 32, 33] [(2, (.ptr 1 0)), (3, (.ptr 2 0)), (31, (.sl (l34 v3))), (32, (aI ((l34 v3).length : Int))), (33, (aI v12))] [.cells [(aI v1), (.sl (l76 v2)), (.sl (l34 v3))], .cells [(aI 0), .nil, .nil], .cells [(aI v1), (.gr 3 (l76 v6).length), (.gr 4 (l34 v18).length)], .row false 77 4 (l76 v6), .row false 35 3 (l34 v18), .cells [(.str v14), (.sl (l69 v15)), (aI v16)]] (by kernel_rfl) rfl rfl (by kernel_rfl) ?_ ?_
            · refine SA_plain hT 6 (by kernel_rfl) ?_
              refine SA_tell (v := (.sl (l69 v17))) (by kernel_rfl) (by kernel_rfl) (by kernel_rfl) (fun L => (jP Go.Proofs.Try.func41 (F41_ok k8 v15 v17 h12))) ?_
              refine SA_plain hT 1 (by kernel_rfl) ?_
              refine SA_at 0 (v := (.sl (l34 [(T34.mk v14 v17 0)]))) (Lp := [.cells [(aI v1), (.sl (l76 v2)), (.sl (l34 v3))], .cells [(aI 0), .nil, .nil], .cells [(aI v1), (.gr 3 (l76 v6).length), (.gr 4 (l34 v13).length)], .row false 77 4 (l76 v6), .row false 35 3 (l34 v13), .cells [(.str v14), (.sl (l69 v15)), (aI v16)]]) (Lq := [.cells [(aI v1), (.sl (l76 v2)), (.sl (l34 v3))], .cells [(aI 0), .nil, .nil], .cells [(aI v1), (.gr 3 (l76 v6).length), (.gr 4 (l34 v13).length)], .row false 77 4 (l76 v6), .row false 35 3 (l34 v13), .cells [(.str v14), (.sl (l69 v15)), (aI v16)]]) (by kernel_rfl) (by kernel_rfl) (by kernel_rfl) (by kernel_rfl) (by kernel_rfl) (by kernel_rfl) (jL hT 35 3 [(.agg [(.str v14), (.sl (l69 v17)), (aI 0)])] 6) ?_
              refine SA_at 0 (v := (.gr 4 (l34 v18).length)) (Lp := [.cells [(aI v1), (.sl (l76 v2)), (.sl (l34 v3))], .cells [(aI 0), .nil, .nil], .cells [(aI v1), (.gr 3 (l76 v6).length), (.gr 4 (l34 v13).length)], .row false 77 4 (l76 v6), .row false 35 3 (l34 v13), .cells [(.str v14), (.sl (l69 v15)), (aI v16)]]) (Lq := [.cells [(aI v1), (.sl (l76 v2)), (.sl (l34 v3))], .cells [(aI 0), .nil, .nil], .cells [(aI v1), (.gr 3 (l76 v6).length), (.gr 4 (l34 v13).length)], .row false 77 4 (l76 v6), .row false 35 3 (l34 v18), .cells [(.str v14), (.sl (l69 v15)), (aI v16)]]) (by kernel_rfl) (by kernel_rfl) (by kernel_rfl) (by kernel_rfl) (by kernel_rfl) (by kernel_rfl) (jA hT l34_map e34_k e34_one [.cells [(aI v1), (.sl (l76 v2)), (.sl (l34 v3))], .cells [(aI 0), .nil, .nil], .cells [(aI v1), (.gr 3 (l76 v6).length), (.gr 4 (l34 v13).length)], .row false 77 4 (l76 v6), .row false 35 3 (l34 v18), .cells [(.str v14), (.sl (l69 v15)), (aI v16)]] false 35 (.gr 4 (l34 v13).length) (.sl (l34 [(T34.mk v14 v17 0)])) 4 (l34 v13).length Weak.refl rfl Weak.refl h13) ?_
              refine SA_plain hT 2 (by kernel_rfl) ?_
              exact SA_end (by kernel_rfl)
            refine AE_blkN ?_
            refine AE_seqN ?_
            refine zr hT [2, 3, 31, 32, 33] [(2, (.ptr 1 0)), (3, (.ptr 2 0)), (31, (.sl (l34 v3))), (32, (aI ((l34 v3).length : Int))), (33, (aI (IntKind.wrap .i64 (v12 + 1))))] ?_
            refine zK [2, 3, 31, 32, 33] [(2, (.ptr 1 0)), (3, (.ptr 2 0)), (31, (.sl (l34 v3))), (32, (aI ((l34 v3).length : Int))), (33, (aI (IntKind.wrap .i64 (v12 + 1))))] ?_
            refine zD 5 [.cells [(aI v1), (.sl (l76 v2)), (.sl (l34 v3))], .cells [(aI 0), .nil, .nil], .cells [(aI v1), (.gr 3 (l76 v6).length), (.gr 4 (l34 v18).length)], .row false 77 4 (l76 v6), .row false 35 3 (l34 v18)] ?_
            exact AE_done ⟨k8, by omega, by omega, (IntKind.wrap .i64 (v12 + 1)), v18, rfl, rfl, h⟩
          · refine zN h10 ?_
            refine AE_exit ?_
            refine AE_seqX ?_
            refine AE_seqX ?_
            refine AE_blkH ?_
            refine AE_seqN ?_
            refine zS hT [2] [(2, (.ptr 1 0))] [.cells [(aI v1), (.sl (l76 v2)), (.sl (l34 v3))], .cells [(aI v1), (.gr 3 (l76 v6).length), (.gr 4 (l34 v13).length)], .cells [(aI v1), (.gr 3 (l76 v6).length), (.gr 4 (l34 v13).length)], .row false 77 4 (l76 v6), .row false 35 3 (l34 v13)] ?_
            refine AE_ret ?_
            refine zK [2] [(2, (.ptr 1 0))] ?_
            refine AE_gh (Gh.recell 1 (cs := [(aI v1), (.gr 3 (l76 v6).length), (.gr 4 (l34 v13).length)]) (cs' := [(aI v1), (.sl (l76 v6)), (.sl (l34 v13))]) (by kernel_rfl) ⟨Weak.refl, (Weak.view (e := 77) (k := 4) (xs := l76 v6) (by kernel_rfl) rfl), (Weak.view (e := 35) (k := 3) (xs := l34 v13) (by kernel_rfl) rfl), trivial⟩ (by kernel_rfl) (L' := [.cells [(aI v1), (.sl (l76 v2)), (.sl (l34 v3))], .cells [(aI v1), (.sl (l76 v6)), (.sl (l34 v13))], .cells [(aI v1), (.gr 3 (l76 v6).length), (.gr 4 (l34 v13).length)], .row false 77 4 (l76 v6), .row false 35 3 (l34 v13)]) (by kernel_rfl)) ?_
            simp only [Option.some.injEq, Prod.mk.injEq] at h
            obtain ⟨rfl, rfl, rfl⟩ := h
            exact zEnd

def F18 (k : Nat) (v1 : Int) (v2 : (List T76)) (v3 : (List T34)) : Option (Bool) :=
  ((F13 k v1 v2 v3).bind fun ⟨v4, v5⟩ =>
    some ((decide (v4 ≥ 0))))

theorem F18_ok (k : Nat) : ∀ (v1 : Int) (v2 : (List T76)) (v3 : (List T34)) (r1 : Bool), F18 k v1 v2 v3 = some (r1) → Fn prog 18 [(.agg [(aI v1), (.sl (l76 v2)), (.sl (l34 v3))])] [] (.bool r1) [] := by
  intro v1 v2 v3 r1 h
  rw [F18] at h
  refine Fn_bodyK hT Go.Proofs.Try.func18 (c := Go.Proofs.Try.f18.body.getD .skip) (by kernel_rfl) (by kernel_rfl) (by kernel_rfl) ?_
  refine zS hT [1] [(1, (.ptr 0 0))] [.cells [(aI v1), (.sl (l76 v2)), (.sl (l34 v3))]] ?_
  refine AW_seq ?_
  obtain ⟨⟨v4, v5⟩, h1, h⟩ := bsm h
  try dsimp only at h
  refine AW_reg ?_
  refine zm hT 1 [6] [(6, (.agg [(aI v1), (.sl (l76 v2)), (.sl (l34 v3))]))] ?_
  refine zO (jP Go.Proofs.Try.func13 (F13_ok k v1 v2 v3 v4 v5 h1)) ?_
  refine ze hT 5 [3] [(3, (aI v4))] ?_
  refine AE_seqN ?_
  refine zs hT [2] [(2, (.bool (decide (v4 ≥ 0))))] ?_
  refine AE_ret ?_
  refine zK [2] [(2, (.bool (decide (v4 ≥ 0))))] ?_
  simp only [Option.some.injEq] at h
  subst h
  exact zEnd

mutual
def F85 : Nat → (List T57) → Option (Bool)
  | 0, _ => none
  | k + 1, v1 =>
    F85_l0 k v1 0
def F85_j1 : Nat → (List T57) → Int → Bool → Option (Bool)
  | 0, _, _, _ => none
  | k8 + 1, v1, v3, v4 =>
    (bif v4 then
      some (false)
    else
      F85_l0 k8 v1 (IntKind.wrap .i64 (v3 + 1)))
def F85_l0 : Nat → (List T57) → Int → Option (Bool)
  | 0, _, _ => none
  | k1 + 1, v1, v2 =>
    (bif (decide (v2 < ((l57 v1).length : Int))) then
      ((idx v1 v2).bind fun ⟨v5, v6, v7, v8, v9, v10⟩ =>
        (bif (v10 != 0) then
          F85_j1 k1 v1 v2 true
        else
          ((idx v1 v2).bind fun ⟨v11, v12, v13, v14, v15, v16⟩ =>
            ((F85 k1 v15).bind fun v17 =>
              F85_j1 k1 v1 v2 (!v17)))))
    else
      some (true))
end

theorem F85_step (K0 : Nat) (ih_F85 : ∀ k, k < K0 → ∀ (v1 : (List T57)) (r1 : Bool), F85 k v1 = some (r1) → Fn prog 85 [(.sl (l57 v1))] [] (.bool r1) []) : ∀ (v1 : (List T57)) (r1 : Bool), F85 K0 v1 = some (r1) → Fn prog 85 [(.sl (l57 v1))] [] (.bool r1) [] := by
  intro v1 r1 h
  cases K0 with
  | zero => rw [F85] at h; cases h
  | succ k =>
    have hk : k < k + 1 := Nat.lt_succ_self k
    rw [F85] at h
    refine Fn_bodyK hT Go.Proofs.Try.func85 (c := Go.Proofs.Try.f85.body.getD .skip) (by kernel_rfl) (by kernel_rfl) (by kernel_rfl) ?_
    refine zs hT [0] [(0, (.sl (l57 v1)))] ?_
    refine AW_seq ?_
    refine zs hT [0, 3] [(0, (.sl (l57 v1))), (3, (aI 0))] ?_
    refine AW_block ?_
    refine zKw [0, 3] [(0, (.sl (l57 v1))), (3, (aI 0))] ?_
    refine AW_loop (fun n env L => n ≤ k ∧ ∃ (v2 : Int), env = [(0, (.sl (l57 v1))), (3, (aI v2))] ∧ L = [] ∧ F85_l0 n v1 v2 = some (r1)) k ⟨Nat.le_refl _, 0, rfl, rfl, h⟩ ?_
    rintro n _ _ ⟨hn, v2, rfl, rfl, h⟩
    cases n with
    | zero => rw [F85_l0] at h; cases h
    | succ k1 =>
      have h2 : k1 < (k + 1) := by omega
      rw [F85_l0] at h
      refine AW_seq ?_
      refine zs hT [0, 3, 7] [(0, (.sl (l57 v1))), (3, (aI v2)), (7, (.bool (decide (v2 < ((l57 v1).length : Int)))))] ?_
      rcases bif_split h with ⟨h3, h⟩ | ⟨h3, h⟩
      · refine zT h3 ?_
        refine AE_skip ?_
        refine AE_seqN ?_
        refine AW_seq ?_
        refine AW_block ?_
        refine AW_join (fun env L => ∃ (v3 : Int) (v4 : Bool), env = [(0, (.sl (l57 v1))), (3, (aI v3)), (24, (.bool v4))] ∧ L = [] ∧ ∃ n, n ≤ k1 ∧ F85_j1 n v1 v3 v4 = some (r1)) ?_ ?_
        · obtain ⟨⟨v5, v6, v7, v8, v9, v10⟩, h4, h⟩ := bsm h
          try dsimp only at h
          rcases bif_split h with ⟨h5, h⟩ | ⟨h5, h⟩
          · refine AW_reg ?_
            refine zm hT 2 [0, 3, 10, 11] [(0, (.sl (l57 v1))), (3, (aI v2)), (10, (.sl (l57 v1))), (11, (aI v2))] ?_
            refine zO (jX hT 6 (i57 h4)) ?_
            refine zm hT 3 [0, 3, 15] [(0, (.sl (l57 v1))), (3, (aI v2)), (15, (.bool (v10 != 0)))] ?_
            refine zO (jQ hT h5) ?_
            refine ze hT 8 [0, 3, 24] [(0, (.sl (l57 v1))), (3, (aI v2)), (24, (.bool true))] ?_
            refine zK [0, 3, 24] [(0, (.sl (l57 v1))), (3, (aI v2)), (24, (.bool true))] ?_
            exact AE_done ⟨v2, true, rfl, rfl, k1, by omega, h⟩
          · obtain ⟨⟨v11, v12, v13, v14, v15, v16⟩, h6, h⟩ := bsm h
            try dsimp only at h
            obtain ⟨v17, h7, h⟩ := bsm h
            try dsimp only at h
            refine AW_reg ?_
            refine zm hT 2 [0, 3, 10, 11] [(0, (.sl (l57 v1))), (3, (aI v2)), (10, (.sl (l57 v1))), (11, (aI v2))] ?_
            refine zO (jX hT 6 (i57 h4)) ?_
            refine zm hT 3 [0, 3, 15] [(0, (.sl (l57 v1))), (3, (aI v2)), (15, (.bool (v10 != 0)))] ?_
            refine zO (jQ hT h5) ?_
            refine zm hT 2 [0, 3, 16, 17, 18] [(0, (.sl (l57 v1))), (3, (aI v2)), (16, (.bool false)), (17, (.sl (l57 v1))), (18, (aI v2))] ?_
            refine zO (jX hT 6 (i57 h6)) ?_
            refine zm hT 2 [0, 3, 16, 21] [(0, (.sl (l57 v1))), (3, (aI v2)), (16, (.bool false)), (21, (.sl (l57 v15)))] ?_
            refine zO (jP Go.Proofs.Try.func85 (ih_F85 k1 h2 v15 v17 h7)) ?_
            refine ze hT 2 [0, 3, 24] [(0, (.sl (l57 v1))), (3, (aI v2)), (24, (.bool (!v17)))] ?_
            refine zK [0, 3, 24] [(0, (.sl (l57 v1))), (3, (aI v2)), (24, (.bool (!v17)))] ?_
            exact AE_done ⟨v2, (!v17), rfl, rfl, k1, by omega, h⟩
        · rintro _ _ ⟨v3, v4, rfl, rfl, n, hn, h⟩
          obtain _ | k8 := n
          · rw [F85_j1] at h; cases h
          have h9 : k8 < (k + 1) := by omega
          rw [F85_j1] at h
          rcases bif_split h with ⟨h10, h⟩ | ⟨h10, h⟩
          · refine zT h10 ?_
            refine zs hT [2] [(2, (.bool false))] ?_
            refine AE_ret ?_
            refine AE_blkR ?_
            refine AE_seqR ?_
            refine AE_seqR ?_
            refine AE_blkR ?_
            refine AE_seqR ?_
            refine zK [2] [(2, (.bool false))] ?_
            simp only [Option.some.injEq] at h
            subst h
            exact zEnd
          · refine zN h10 ?_
            refine AE_skip ?_
            refine AE_blkN ?_
            refine AE_seqN ?_
            refine zr hT [0, 3] [(0, (.sl (l57 v1))), (3, (aI (IntKind.wrap .i64 (v3 + 1))))] ?_
            refine zK [0, 3] [(0, (.sl (l57 v1))), (3, (aI (IntKind.wrap .i64 (v3 + 1))))] ?_
            exact AE_done ⟨k8, by omega, by omega, (IntKind.wrap .i64 (v3 + 1)), rfl, rfl, h⟩
      · refine zN h3 ?_
        refine AE_exit ?_
        refine AE_seqX ?_
        refine AE_seqX ?_
        refine AE_blkH ?_
        refine AE_seqN ?_
        refine zs hT [2] [(2, (.bool true))] ?_
        refine AE_ret ?_
        refine zK [2] [(2, (.bool true))] ?_
        simp only [Option.some.injEq] at h
        subst h
        exact zEnd

theorem F85_all (K0 : Nat) : (∀ (v1 : (List T57)) (r1 : Bool), F85 K0 v1 = some (r1) → Fn prog 85 [(.sl (l57 v1))] [] (.bool r1) []) := by
  induction K0 using Nat.strongRecOn with
  | ind K0 ih => exact F85_step K0 (fun k hk => (ih k hk))

theorem F85_ok (K0 : Nat) : ∀ (v1 : (List T57)) (r1 : Bool), F85 K0 v1 = some (r1) → Fn prog 85 [(.sl (l57 v1))] [] (.bool r1) [] := (F85_all K0)

mutual
def F48 : Nat → (List T69) → Option (Bool)
  | 0, _ => none
  | k + 1, v1 =>
    F48_l0 k v1 0
def F48_j1 : Nat → (List T69) → Int → Bool → Option (Bool)
  | 0, _, _, _ => none
  | k14 + 1, v1, v3, v4 =>
    (bif v4 then
      some (false)
    else
      F48_l0 k14 v1 (IntKind.wrap .i64 (v3 + 1)))
def F48_l0 : Nat → (List T69) → Int → Option (Bool)
  | 0, _, _ => none
  | k1 + 1, v1, v2 =>
    (bif (decide (v2 < ((l69 v1).length : Int))) then
      ((idx v1 v2).bind fun ⟨v5, v6, v7, v8, v9, v10, v11⟩ =>
        (bif (v11 != 0) then
          F48_j1 k1 v1 v2 true
        else
          ((idx v1 v2).bind fun ⟨v12, v13, v14, v15, v16, v17, v18⟩ =>
            ((F48 k1 v16).bind fun v19 =>
              (bif (!v19) then
                F48_j1 k1 v1 v2 true
              else
                ((idx v1 v2).bind fun ⟨v20, v21, v22, v23, v24, v25, v26⟩ =>
                  ((F48 k1 v25).bind fun v27 =>
                    (bif (!v27) then
                      F48_j1 k1 v1 v2 true
                    else
                      ((idx v1 v2).bind fun ⟨v28, v29, v30, v31, v32, v33, v34⟩ =>
                        ((F85 k1 v31).bind fun v35 =>
                          F48_j1 k1 v1 v2 (!v35)))))))))))
    else
      some (true))
end

theorem F48_step (K0 : Nat) (ih_F48 : ∀ k, k < K0 → ∀ (v1 : (List T69)) (r1 : Bool), F48 k v1 = some (r1) → Fn prog 48 [(.sl (l69 v1))] [] (.bool r1) []) : ∀ (v1 : (List T69)) (r1 : Bool), F48 K0 v1 = some (r1) → Fn prog 48 [(.sl (l69 v1))] [] (.bool r1) [] := by
  intro v1 r1 h
  cases K0 with
  | zero => rw [F48] at h; cases h
  | succ k =>
    have hk : k < k + 1 := Nat.lt_succ_self k
    rw [F48] at h
    refine Fn_bodyK hT Go.Proofs.Try.func48 (c := Go.Proofs.Try.f48.body.getD .skip) (by kernel_rfl) (by kernel_rfl) (by kernel_rfl) ?_
    refine zs hT [0] [(0, (.sl (l69 v1)))] ?_
    refine AW_seq ?_
    refine zs hT [0, 3] [(0, (.sl (l69 v1))), (3, (aI 0))] ?_
    refine AW_block ?_
    refine zKw [0, 3] [(0, (.sl (l69 v1))), (3, (aI 0))] ?_
    refine AW_loop (fun n env L => n ≤ k ∧ ∃ (v2 : Int), env = [(0, (.sl (l69 v1))), (3, (aI v2))] ∧ L = [] ∧ F48_l0 n v1 v2 = some (r1)) k ⟨Nat.le_refl _, 0, rfl, rfl, h⟩ ?_
    rintro n _ _ ⟨hn, v2, rfl, rfl, h⟩
    cases n with
    | zero => rw [F48_l0] at h; cases h
    | succ k1 =>
      have h2 : k1 < (k + 1) := by omega
      rw [F48_l0] at h
      refine AW_seq ?_
      refine zs hT [0, 3, 7] [(0, (.sl (l69 v1))), (3, (aI v2)), (7, (.bool (decide (v2 < ((l69 v1).length : Int)))))] ?_
      rcases bif_split h with ⟨h3, h⟩ | ⟨h3, h⟩
      · refine zT h3 ?_
        refine AE_skip ?_
        refine AE_seqN ?_
        refine AW_seq ?_
        refine AW_block ?_
        refine AW_join (fun env L => ∃ (v3 : Int) (v4 : Bool), env = [(0, (.sl (l69 v1))), (3, (aI v3)), (42, (.bool v4))] ∧ L = [] ∧ ∃ n, n ≤ k1 ∧ F48_j1 n v1 v3 v4 = some (r1)) ?_ ?_
        · obtain ⟨⟨v5, v6, v7, v8, v9, v10, v11⟩, h4, h⟩ := bsm h
          try dsimp only at h
          rcases bif_split h with ⟨h5, h⟩ | ⟨h5, h⟩
          · refine AW_reg ?_
            refine zm hT 2 [0, 3, 10, 11] [(0, (.sl (l69 v1))), (3, (aI v2)), (10, (.sl (l69 v1))), (11, (aI v2))] ?_
            refine zO (jX hT 7 (i69 h4)) ?_
            refine zm hT 3 [0, 3, 15] [(0, (.sl (l69 v1))), (3, (aI v2)), (15, (.bool (v11 != 0)))] ?_
            refine zO (jQ hT h5) ?_
            refine ze hT 26 [0, 3, 42] [(0, (.sl (l69 v1))), (3, (aI v2)), (42, (.bool true))] ?_
            refine zK [0, 3, 42] [(0, (.sl (l69 v1))), (3, (aI v2)), (42, (.bool true))] ?_
            exact AE_done ⟨v2, true, rfl, rfl, k1, by omega, h⟩
          · obtain ⟨⟨v12, v13, v14, v15, v16, v17, v18⟩, h6, h⟩ := bsm h
            try dsimp only at h
            obtain ⟨v19, h7, h⟩ := bsm h
            try dsimp only at h
            rcases bif_split h with ⟨h8, h⟩ | ⟨h8, h⟩
            · refine AW_reg ?_
              refine zm hT 2 [0, 3, 10, 11] [(0, (.sl (l69 v1))), (3, (aI v2)), (10, (.sl (l69 v1))), (11, (aI v2))] ?_
              refine zO (jX hT 7 (i69 h4)) ?_
              refine zm hT 3 [0, 3, 15] [(0, (.sl (l69 v1))), (3, (aI v2)), (15, (.bool (v11 != 0)))] ?_
              refine zO (jQ hT h5) ?_
              refine zm hT 2 [0, 3, 16, 17, 18] [(0, (.sl (l69 v1))), (3, (aI v2)), (16, (.bool false)), (17, (.sl (l69 v1))), (18, (aI v2))] ?_
              refine zO (jX hT 7 (i69 h6)) ?_
              refine zm hT 2 [0, 3, 16, 21] [(0, (.sl (l69 v1))), (3, (aI v2)), (16, (.bool false)), (21, (.sl (l69 v16)))] ?_
              refine zO (jP Go.Proofs.Try.func48 (ih_F48 k1 h2 v16 v19 h7)) ?_
              refine zm hT 2 [0, 3, 24] [(0, (.sl (l69 v1))), (3, (aI v2)), (24, (.bool (!v19)))] ?_
              refine zO (jQ hT h8) ?_
              refine ze hT 17 [0, 3, 42] [(0, (.sl (l69 v1))), (3, (aI v2)), (42, (.bool true))] ?_
              refine zK [0, 3, 42] [(0, (.sl (l69 v1))), (3, (aI v2)), (42, (.bool true))] ?_
              exact AE_done ⟨v2, true, rfl, rfl, k1, by omega, h⟩
            · obtain ⟨⟨v20, v21, v22, v23, v24, v25, v26⟩, h9, h⟩ := bsm h
              try dsimp only at h
              obtain ⟨v27, h10, h⟩ := bsm h
              try dsimp only at h
              rcases bif_split h with ⟨h11, h⟩ | ⟨h11, h⟩
              · refine AW_reg ?_
                refine zm hT 2 [0, 3, 10, 11] [(0, (.sl (l69 v1))), (3, (aI v2)), (10, (.sl (l69 v1))), (11, (aI v2))] ?_
                refine zO (jX hT 7 (i69 h4)) ?_
                refine zm hT 3 [0, 3, 15] [(0, (.sl (l69 v1))), (3, (aI v2)), (15, (.bool (v11 != 0)))] ?_
                refine zO (jQ hT h5) ?_
                refine zm hT 2 [0, 3, 16, 17, 18] [(0, (.sl (l69 v1))), (3, (aI v2)), (16, (.bool false)), (17, (.sl (l69 v1))), (18, (aI v2))] ?_
                refine zO (jX hT 7 (i69 h6)) ?_
                refine zm hT 2 [0, 3, 16, 21] [(0, (.sl (l69 v1))), (3, (aI v2)), (16, (.bool false)), (21, (.sl (l69 v16)))] ?_
                refine zO (jP Go.Proofs.Try.func48 (ih_F48 k1 h2 v16 v19 h7)) ?_
                refine zm hT 2 [0, 3, 24] [(0, (.sl (l69 v1))), (3, (aI v2)), (24, (.bool (!v19)))] ?_
                refine zO (jQ hT h8) ?_
                refine zm hT 2 [0, 3, 25, 26, 27] [(0, (.sl (l69 v1))), (3, (aI v2)), (25, (.bool false)), (26, (.sl (l69 v1))), (27, (aI v2))] ?_
                refine zO (jX hT 7 (i69 h9)) ?_
                refine zm hT 2 [0, 3, 25, 30] [(0, (.sl (l69 v1))), (3, (aI v2)), (25, (.bool false)), (30, (.sl (l69 v25)))] ?_
                refine zO (jP Go.Proofs.Try.func48 (ih_F48 k1 h2 v25 v27 h10)) ?_
                refine zm hT 2 [0, 3, 33] [(0, (.sl (l69 v1))), (3, (aI v2)), (33, (.bool (!v27)))] ?_
                refine zO (jQ hT h11) ?_
                refine ze hT 8 [0, 3, 42] [(0, (.sl (l69 v1))), (3, (aI v2)), (42, (.bool true))] ?_
                refine zK [0, 3, 42] [(0, (.sl (l69 v1))), (3, (aI v2)), (42, (.bool true))] ?_
                exact AE_done ⟨v2, true, rfl, rfl, k1, by omega, h⟩
              · obtain ⟨⟨v28, v29, v30, v31, v32, v33, v34⟩, h12, h⟩ := bsm h
                try dsimp only at h
                obtain ⟨v35, h13, h⟩ := bsm h
                try dsimp only at h
                refine AW_reg ?_
                refine zm hT 2 [0, 3, 10, 11] [(0, (.sl (l69 v1))), (3, (aI v2)), (10, (.sl (l69 v1))), (11, (aI v2))] ?_
                refine zO (jX hT 7 (i69 h4)) ?_
                refine zm hT 3 [0, 3, 15] [(0, (.sl (l69 v1))), (3, (aI v2)), (15, (.bool (v11 != 0)))] ?_
                refine zO (jQ hT h5) ?_
                refine zm hT 2 [0, 3, 16, 17, 18] [(0, (.sl (l69 v1))), (3, (aI v2)), (16, (.bool false)), (17, (.sl (l69 v1))), (18, (aI v2))] ?_
                refine zO (jX hT 7 (i69 h6)) ?_
                refine zm hT 2 [0, 3, 16, 21] [(0, (.sl (l69 v1))), (3, (aI v2)), (16, (.bool false)), (21, (.sl (l69 v16)))] ?_
                refine zO (jP Go.Proofs.Try.func48 (ih_F48 k1 h2 v16 v19 h7)) ?_
                refine zm hT 2 [0, 3, 24] [(0, (.sl (l69 v1))), (3, (aI v2)), (24, (.bool (!v19)))] ?_
                refine zO (jQ hT h8) ?_
                refine zm hT 2 [0, 3, 25, 26, 27] [(0, (.sl (l69 v1))), (3, (aI v2)), (25, (.bool false)), (26, (.sl (l69 v1))), (27, (aI v2))] ?_
                refine zO (jX hT 7 (i69 h9)) ?_
                refine zm hT 2 [0, 3, 25, 30] [(0, (.sl (l69 v1))), (3, (aI v2)), (25, (.bool false)), (30, (.sl (l69 v25)))] ?_
                refine zO (jP Go.Proofs.Try.func48 (ih_F48 k1 h2 v25 v27 h10)) ?_
                refine zm hT 2 [0, 3, 33] [(0, (.sl (l69 v1))), (3, (aI v2)), (33, (.bool (!v27)))] ?_
                refine zO (jQ hT h11) ?_
                refine zm hT 2 [0, 3, 34, 35, 36] [(0, (.sl (l69 v1))), (3, (aI v2)), (34, (.bool false)), (35, (.sl (l69 v1))), (36, (aI v2))] ?_
                refine zO (jX hT 7 (i69 h12)) ?_
                refine zm hT 2 [0, 3, 34, 39] [(0, (.sl (l69 v1))), (3, (aI v2)), (34, (.bool false)), (39, (.sl (l57 v31)))] ?_
                refine zO (jP Go.Proofs.Try.func85 (F85_ok k1 v31 v35 h13)) ?_
                refine ze hT 2 [0, 3, 42] [(0, (.sl (l69 v1))), (3, (aI v2)), (42, (.bool (!v35)))] ?_
                refine zK [0, 3, 42] [(0, (.sl (l69 v1))), (3, (aI v2)), (42, (.bool (!v35)))] ?_
                exact AE_done ⟨v2, (!v35), rfl, rfl, k1, by omega, h⟩
        · rintro _ _ ⟨v3, v4, rfl, rfl, n, hn, h⟩
          obtain _ | k14 := n
          · rw [F48_j1] at h; cases h
          have h15 : k14 < (k + 1) := by omega
          rw [F48_j1] at h
          rcases bif_split h with ⟨h16, h⟩ | ⟨h16, h⟩
          · refine zT h16 ?_
            refine zs hT [2] [(2, (.bool false))] ?_
            refine AE_ret ?_
            refine AE_blkR ?_
            refine AE_seqR ?_
            refine AE_seqR ?_
            refine AE_blkR ?_
            refine AE_seqR ?_
            refine zK [2] [(2, (.bool false))] ?_
            simp only [Option.some.injEq] at h
            subst h
            exact zEnd
          · refine zN h16 ?_
            refine AE_skip ?_
            refine AE_blkN ?_
            refine AE_seqN ?_
            refine zr hT [0, 3] [(0, (.sl (l69 v1))), (3, (aI (IntKind.wrap .i64 (v3 + 1))))] ?_
            refine zK [0, 3] [(0, (.sl (l69 v1))), (3, (aI (IntKind.wrap .i64 (v3 + 1))))] ?_
            exact AE_done ⟨k14, by omega, by omega, (IntKind.wrap .i64 (v3 + 1)), rfl, rfl, h⟩
      · refine zN h3 ?_
        refine AE_exit ?_
        refine AE_seqX ?_
        refine AE_seqX ?_
        refine AE_blkH ?_
        refine AE_seqN ?_
        refine zs hT [2] [(2, (.bool true))] ?_
        refine AE_ret ?_
        refine zK [2] [(2, (.bool true))] ?_
        simp only [Option.some.injEq] at h
        subst h
        exact zEnd

theorem F48_all (K0 : Nat) : (∀ (v1 : (List T69)) (r1 : Bool), F48 K0 v1 = some (r1) → Fn prog 48 [(.sl (l69 v1))] [] (.bool r1) []) := by
  induction K0 using Nat.strongRecOn with
  | ind K0 ih => exact F48_step K0 (fun k hk => (ih k hk))

theorem F48_ok (K0 : Nat) : ∀ (v1 : (List T69)) (r1 : Bool), F48 K0 v1 = some (r1) → Fn prog 48 [(.sl (l69 v1))] [] (.bool r1) [] := (F48_all K0)

mutual
def F20_j2 : Nat → (List T34) → Int → Bool → Option (Bool)
  | 0, _, _, _ => none
  | k13 + 1, v3, v10, v11 =>
    (bif v11 then
      some (false)
    else
      F20_l1 k13 v3 (IntKind.wrap .i64 (v10 + 1)))
def F20_l1 : Nat → (List T34) → Int → Option (Bool)
  | 0, _, _ => none
  | k6 + 1, v3, v9 =>
    (bif (decide (v9 < ((l34 v3).length : Int))) then
      ((idx v3 v9).bind fun ⟨v12, v13, v14⟩ =>
        (bif (v14 != 0) then
          F20_j2 k6 v3 v9 true
        else
          ((idx v3 v9).bind fun ⟨v15, v16, v17⟩ =>
            ((F48 k6 v16).bind fun v18 =>
              F20_j2 k6 v3 v9 (!v18)))))
    else
      some (true))
end

def F20_l0 : Nat → (List T76) → (List T34) → Int → Option (Bool)
  | 0, _, _, _ => none
  | k1 + 1, v2, v3, v4 =>
    (bif (decide (v4 < ((l76 v2).length : Int))) then
      ((idx v2 v4).bind fun ⟨v5, v6, v7, v8⟩ =>
        (bif (v8 != 0) then
          some (false)
        else
          F20_l0 k1 v2 v3 (IntKind.wrap .i64 (v4 + 1))))
    else
      F20_l1 k1 v3 0)

def F20 (k : Nat) (v1 : Int) (v2 : (List T76)) (v3 : (List T34)) : Option (Bool) :=
  F20_l0 k v2 v3 0

theorem F20_ok (k : Nat) : ∀ (v1 : Int) (v2 : (List T76)) (v3 : (List T34)) (r1 : Bool), F20 k v1 v2 v3 = some (r1) → Fn prog 20 [(.agg [(aI v1), (.sl (l76 v2)), (.sl (l34 v3))])] [] (.bool r1) [] := by
  intro v1 v2 v3 r1 h
  rw [F20] at h
  refine Fn_bodyK hT Go.Proofs.Try.func20 (c := Go.Proofs.Try.f20.body.getD .skip) (by kernel_rfl) (by kernel_rfl) (by kernel_rfl) ?_
  refine zS hT [1] [(1, (.ptr 0 0))] [.cells [(aI v1), (.sl (l76 v2)), (.sl (l34 v3))]] ?_
  refine AW_seq ?_
  refine zs hT [1, 3] [(1, (.ptr 0 0)), (3, (aI 0))] ?_
  refine AW_block ?_
  refine zKw [1, 3] [(1, (.ptr 0 0)), (3, (aI 0))] ?_
  refine AW_loop (fun n env L => n ≤ k ∧ ∃ (v4 : Int), env = [(1, (.ptr 0 0)), (3, (aI v4))] ∧ L = [.cells [(aI v1), (.sl (l76 v2)), (.sl (l34 v3))]] ∧ F20_l0 n v2 v3 v4 = some (r1)) k ⟨Nat.le_refl _, 0, rfl, rfl, h⟩ ?_
  rintro n _ _ ⟨hn, v4, rfl, rfl, h⟩
  cases n with
  | zero => rw [F20_l0] at h; cases h
  | succ k1 =>
    rw [F20_l0] at h
    refine AW_seq ?_
    refine zs hT [1, 3, 9] [(1, (.ptr 0 0)), (3, (aI v4)), (9, (.bool (decide (v4 < ((l76 v2).length : Int)))))] ?_
    rcases bif_split h with ⟨h3, h⟩ | ⟨h3, h⟩
    · refine zT h3 ?_
      refine AE_skip ?_
      refine AE_seqN ?_
      refine AW_seq ?_
      refine AW_block ?_
      refine AW_seq ?_
      obtain ⟨⟨v5, v6, v7, v8⟩, h4, h⟩ := bsm h
      try dsimp only at h
      refine AW_reg ?_
      refine zm hT 3 [1, 3, 13, 14] [(1, (.ptr 0 0)), (3, (aI v4)), (13, (.sl (l76 v2))), (14, (aI v4))] ?_
      refine zO (jX hT 4 (i76 h4)) ?_
      refine ze hT 3 [1, 3, 18] [(1, (.ptr 0 0)), (3, (aI v4)), (18, (.bool (v8 != 0)))] ?_
      refine AE_seqN ?_
      rcases bif_split h with ⟨h5, h⟩ | ⟨h5, h⟩
      · refine zT h5 ?_
        refine zs hT [2] [(2, (.bool false))] ?_
        refine AE_ret ?_
        refine AE_blkR ?_
        refine AE_seqR ?_
        refine AE_seqR ?_
        refine AE_blkR ?_
        refine AE_seqR ?_
        refine zK [2] [(2, (.bool false))] ?_
        simp only [Option.some.injEq] at h
        subst h
        exact zEnd
      · refine zN h5 ?_
        refine AE_skip ?_
        refine AE_blkN ?_
        refine AE_seqN ?_
        refine zr hT [1, 3] [(1, (.ptr 0 0)), (3, (aI (IntKind.wrap .i64 (v4 + 1))))] ?_
        refine zK [1, 3] [(1, (.ptr 0 0)), (3, (aI (IntKind.wrap .i64 (v4 + 1))))] ?_
        exact AE_done ⟨k1, by omega, by omega, (IntKind.wrap .i64 (v4 + 1)), rfl, rfl, h⟩
    · refine zN h3 ?_
      refine AE_exit ?_
      refine AE_seqX ?_
      refine AE_seqX ?_
      refine AE_blkH ?_
      refine AE_seqN ?_
      refine AW_seq ?_
      refine zs hT [1, 4] [(1, (.ptr 0 0)), (4, (aI 0))] ?_
      refine AW_block ?_
      refine zKw [1, 4] [(1, (.ptr 0 0)), (4, (aI 0))] ?_
      refine AW_loop (fun n env L => n ≤ k1 ∧ ∃ (v9 : Int), env = [(1, (.ptr 0 0)), (4, (aI v9))] ∧ L = [.cells [(aI v1), (.sl (l76 v2)), (.sl (l34 v3))]] ∧ F20_l1 n v3 v9 = some (r1)) k1 ⟨Nat.le_refl _, 0, rfl, rfl, h⟩ ?_
      rintro n _ _ ⟨hn, v9, rfl, rfl, h⟩
      cases n with
      | zero => rw [F20_l1] at h; cases h
      | succ k6 =>
        rw [F20_l1] at h
        refine AW_seq ?_
        refine zs hT [1, 4, 23] [(1, (.ptr 0 0)), (4, (aI v9)), (23, (.bool (decide (v9 < ((l34 v3).length : Int)))))] ?_
        rcases bif_split h with ⟨h8, h⟩ | ⟨h8, h⟩
        · refine zT h8 ?_
          refine AE_skip ?_
          refine AE_seqN ?_
          refine AW_seq ?_
          refine AW_block ?_
          refine AW_join (fun env L => ∃ (v10 : Int) (v11 : Bool), env = [(1, (.ptr 0 0)), (4, (aI v10)), (42, (.bool v11))] ∧ L = [.cells [(aI v1), (.sl (l76 v2)), (.sl (l34 v3))]] ∧ ∃ n, n ≤ k6 ∧ F20_j2 n v3 v10 v11 = some (r1)) ?_ ?_
          · obtain ⟨⟨v12, v13, v14⟩, h9, h⟩ := bsm h
            try dsimp only at h
            rcases bif_split h with ⟨h10, h⟩ | ⟨h10, h⟩
            · refine AW_reg ?_
              refine zm hT 3 [1, 4, 27, 28] [(1, (.ptr 0 0)), (4, (aI v9)), (27, (.sl (l34 v3))), (28, (aI v9))] ?_
              refine zO (jX hT 3 (i34 h9)) ?_
              refine zm hT 3 [1, 4, 32] [(1, (.ptr 0 0)), (4, (aI v9)), (32, (.bool (v14 != 0)))] ?_
              refine zO (jQ hT h10) ?_
              refine ze hT 9 [1, 4, 42] [(1, (.ptr 0 0)), (4, (aI v9)), (42, (.bool true))] ?_
              refine zK [1, 4, 42] [(1, (.ptr 0 0)), (4, (aI v9)), (42, (.bool true))] ?_
              exact AE_done ⟨v9, true, rfl, rfl, k6, by omega, h⟩
            · obtain ⟨⟨v15, v16, v17⟩, h11, h⟩ := bsm h
              try dsimp only at h
              obtain ⟨v18, h12, h⟩ := bsm h
              try dsimp only at h
              refine AW_reg ?_
              refine zm hT 3 [1, 4, 27, 28] [(1, (.ptr 0 0)), (4, (aI v9)), (27, (.sl (l34 v3))), (28, (aI v9))] ?_
              refine zO (jX hT 3 (i34 h9)) ?_
              refine zm hT 3 [1, 4, 32] [(1, (.ptr 0 0)), (4, (aI v9)), (32, (.bool (v14 != 0)))] ?_
              refine zO (jQ hT h10) ?_
              refine zm hT 3 [1, 4, 33, 35, 36] [(1, (.ptr 0 0)), (4, (aI v9)), (33, (.bool false)), (35, (.sl (l34 v3))), (36, (aI v9))] ?_
              refine zO (jX hT 3 (i34 h11)) ?_
              refine zm hT 2 [1, 4, 33, 39] [(1, (.ptr 0 0)), (4, (aI v9)), (33, (.bool false)), (39, (.sl (l69 v16)))] ?_
              refine zO (jP Go.Proofs.Try.func48 (F48_ok k6 v16 v18 h12)) ?_
              refine ze hT 2 [1, 4, 42] [(1, (.ptr 0 0)), (4, (aI v9)), (42, (.bool (!v18)))] ?_
              refine zK [1, 4, 42] [(1, (.ptr 0 0)), (4, (aI v9)), (42, (.bool (!v18)))] ?_
              exact AE_done ⟨v9, (!v18), rfl, rfl, k6, by omega, h⟩
          · rintro _ _ ⟨v10, v11, rfl, rfl, n, hn, h⟩
            obtain _ | k13 := n
            · rw [F20_j2] at h; cases h
            rw [F20_j2] at h
            rcases bif_split h with ⟨h15, h⟩ | ⟨h15, h⟩
            · refine zT h15 ?_
              refine zs hT [2] [(2, (.bool false))] ?_
              refine AE_ret ?_
              refine AE_blkR ?_
              refine AE_seqR ?_
              refine AE_seqR ?_
              refine AE_blkR ?_
              refine AE_seqR ?_
              refine zK [2] [(2, (.bool false))] ?_
              simp only [Option.some.injEq] at h
              subst h
              exact zEnd
            · refine zN h15 ?_
              refine AE_skip ?_
              refine AE_blkN ?_
              refine AE_seqN ?_
              refine zr hT [1, 4] [(1, (.ptr 0 0)), (4, (aI (IntKind.wrap .i64 (v10 + 1))))] ?_
              refine zK [1, 4] [(1, (.ptr 0 0)), (4, (aI (IntKind.wrap .i64 (v10 + 1))))] ?_
              exact AE_done ⟨k13, by omega, by omega, (IntKind.wrap .i64 (v10 + 1)), rfl, rfl, h⟩
        · refine zN h8 ?_
          refine AE_exit ?_
          refine AE_seqX ?_
          refine AE_seqX ?_
          refine AE_blkH ?_
          refine AE_seqN ?_
          refine zs hT [2] [(2, (.bool true))] ?_
          refine AE_ret ?_
          refine zK [2] [(2, (.bool true))] ?_
          simp only [Option.some.injEq] at h
          subst h
          exact zEnd

def F4_j1 (k26 : Nat) (v4 : Int) (v1 : Int) (v2 : (List T76)) (v3 : (List T34)) (v16 : Int) (v17 : (List T76)) (v18 : (List T34)) (v22 : Bool) : Option (Bool) :=
  (bif v22 then
    some (false)
  else
    ((appL 48 [] v3).bind fun v26 =>
      ((idx v26 0).bind fun ⟨v27, v28, v29⟩ =>
        ((F19 k26 v1 v2 (List.set v26 (Int.toNat 0) (T34.mk v27 v28 v4)) v16 v17 v18).bind fun v30 =>
          (bif v30 then
            ((F11 k26 ).bind fun v31 =>
              some (v31))
          else
            some (false))))))

def F4_l0 : Nat → Int → Int → (List T76) → (List T34) → Int → Option (Bool)
  | 0, _, _, _, _, _ => none
  | k4 + 1, v4, v1, v2, v3, v7 =>
    (bif (decide (v7 < ((l34 v3).length : Int))) then
      ((idx v3 v7).bind fun ⟨v8, v9, v10⟩ =>
        ((F15 k4 v9).bind fun v11 =>
          ((idx v3 v7).bind fun ⟨v12, v13, v14⟩ =>
            ((F16 k4 v13 13).bind fun v15 =>
              (bif (v11 != v15) then
                some (false)
              else
                F4_l0 k4 v4 v1 v2 v3 (IntKind.wrap .i64 (v7 + 1)))))))
    else
      ((F17 k4 v1 v2 v3).bind fun ⟨v16, v17, v18⟩ =>
        ((F18 k4 v1 v2 v3).bind fun v19 =>
          (bif (!v19) then
            (bif (((l34 v18).length : Int) == 0) then
              (bif (((l76 v17).length : Int) == 0) then
                (bif (v16 == 0) then
                  ((F19 k4 v1 v2 v3 v1 v2 v3).bind fun v20 =>
                    (bif (!v20) then
                      ((F11 k4 ).bind fun v21 =>
                        some (v21))
                    else
                      some (false)))
                else
                  some (false))
              else
                some (false))
            else
              some (false))
          else
            ((F19 k4 v1 v2 v3 v1 v2 v3).bind fun v23 =>
              (bif (!v23) then
                F4_j1 k4 v4 v1 v2 v3 v16 v17 v18 true
              else
                ((F19 k4 v1 v2 v3 v16 v17 v18).bind fun v24 =>
                  (bif (!v24) then
                    F4_j1 k4 v4 v1 v2 v3 v16 v17 v18 true
                  else
                    ((F20 k4 v16 v17 v18).bind fun v25 =>
                      F4_j1 k4 v4 v1 v2 v3 v16 v17 v18 (!v25))))))))))

def F4 (k : Nat) (v1 : Int) (v2 : (List T76)) (v3 : (List T34)) (v4 : Int) : Option (Bool) :=
  ((F10 k v1 v2 v3).bind fun v5 =>
    (bif (!v5) then
      ((F11 k ).bind fun v6 =>
        some (v6))
    else
      F4_l0 k v4 v1 v2 v3 0))

theorem F4_ok (k : Nat) : ∀ (v1 : Int) (v2 : (List T76)) (v3 : (List T34)) (v4 : Int) (r1 : Bool), F4 k v1 v2 v3 v4 = some (r1) → Fn prog 4 [(.agg [(aI v1), (.sl (l76 v2)), (.sl (l34 v3))]), (aI v4)] [] (.bool r1) [] := by
  intro v1 v2 v3 v4 r1 h
  rw [F4] at h
  refine Fn_bodyK hT Go.Proofs.Try.func4 (c := Go.Proofs.Try.f4.body.getD .skip) (by kernel_rfl) (by kernel_rfl) (by kernel_rfl) ?_
  refine zS hT [1, 2] [(1, (aI v4)), (2, (.ptr 0 0))] [.cells [(aI v1), (.sl (l76 v2)), (.sl (l34 v3))]] ?_
  refine AW_seq ?_
  refine AW_seq ?_
  obtain ⟨v5, h1, h⟩ := bsm h
  try dsimp only at h
  refine AW_reg ?_
  refine zm hT 1 [1, 2, 7] [(1, (aI v4)), (2, (.ptr 0 0)), (7, (.agg [(aI v1), (.sl (l76 v2)), (.sl (l34 v3))]))] ?_
  refine zO (jP Go.Proofs.Try.func10 (F10_ok k v1 v2 v3 v5 h1)) ?_
  refine ze hT 1 [1, 2, 9] [(1, (aI v4)), (2, (.ptr 0 0)), (9, (.bool (!v5)))] ?_
  refine AE_seqN ?_
  rcases bif_split h with ⟨h2, h⟩ | ⟨h2, h⟩
  · refine zT h2 ?_
    refine AW_seq ?_
    obtain ⟨v6, h3, h⟩ := bsm h
    try dsimp only at h
    refine AW_reg ?_
    refine zO (jP Go.Proofs.Try.func11 (F11_ok k  v6 h3)) ?_
    refine ze hT 1 [4] [(4, (.bool v6))] ?_
    refine AE_seqN ?_
    refine AE_ret ?_
    refine AE_seqR ?_
    refine zK [4] [(4, (.bool v6))] ?_
    simp only [Option.some.injEq] at h
    subst h
    exact zEnd
  · refine zN h2 ?_
    refine AE_skip ?_
    refine AE_seqN ?_
    refine AW_seq ?_
    refine zs hT [1, 2, 5] [(1, (aI v4)), (2, (.ptr 0 0)), (5, (aI 0))] ?_
    refine AW_block ?_
    refine zKw [1, 2, 5] [(1, (aI v4)), (2, (.ptr 0 0)), (5, (aI 0))] ?_
    refine AW_loop (fun n env L => n ≤ k ∧ ∃ (v7 : Int), env = [(1, (aI v4)), (2, (.ptr 0 0)), (5, (aI v7))] ∧ L = [.cells [(aI v1), (.sl (l76 v2)), (.sl (l34 v3))]] ∧ F4_l0 n v4 v1 v2 v3 v7 = some (r1)) k ⟨Nat.le_refl _, 0, rfl, rfl, h⟩ ?_
    rintro n _ _ ⟨hn, v7, rfl, rfl, h⟩
    cases n with
    | zero => rw [F4_l0] at h; cases h
    | succ k4 =>
      rw [F4_l0] at h
      refine AW_seq ?_
      refine zs hT [1, 2, 5, 15] [(1, (aI v4)), (2, (.ptr 0 0)), (5, (aI v7)), (15, (.bool (decide (v7 < ((l34 v3).length : Int)))))] ?_
      rcases bif_split h with ⟨h6, h⟩ | ⟨h6, h⟩
      · refine zT h6 ?_
        refine AE_skip ?_
        refine AE_seqN ?_
        refine AW_seq ?_
        refine AW_block ?_
        refine AW_seq ?_
        obtain ⟨⟨v8, v9, v10⟩, h7, h⟩ := bsm h
        try dsimp only at h
        obtain ⟨v11, h8, h⟩ := bsm h
        try dsimp only at h
        obtain ⟨⟨v12, v13, v14⟩, h9, h⟩ := bsm h
        try dsimp only at h
        obtain ⟨v15, h10, h⟩ := bsm h
        try dsimp only at h
        refine AW_drx hmix [⟨(.ptr 0 2), [], 0, 0, false⟩, ⟨(.sl (l34 v3)), [0], 0, 0, false⟩, ⟨(aI v7), [], 0, 0, false⟩, ⟨(.rp [(.str v8), (.sl (l69 v9)), (aI v10)]), [0, 1, 2], 0, 0, false⟩, ⟨(.rp [(.sl (l69 v9)), (aI v10)]), [0, 1, 2, 3], 0, 0, false⟩, ⟨(.sl (l69 v9)), [0, 1, 2, 3, 4], 0, 0, false⟩, ⟨(aI v11), [0, 1, 2, 3, 4, 5], 0, 0, false⟩, ⟨(.ptr 0 2), [], 0, 0, false⟩, ⟨(.sl (l34 v3)), [7], 0, 0, false⟩, ⟨(aI v7), [], 0, 0, false⟩, ⟨(.rp [(.str v12), (.sl (l69 v13)), (aI v14)]), [7, 8, 9], 0, 0, false⟩, ⟨(.rp [(.sl (l69 v13)), (aI v14)]), [7, 8, 9, 10], 0, 0, false⟩, ⟨(.sl (l69 v13)), [7, 8, 9, 10, 11], 0, 0, false⟩, ⟨(aI v15), [0, 1, 2, 3, 4, 5, 6, 7, 8, 9, 10, 11, 12], 0, 0, false⟩, ⟨(.bool (v11 != v15)), [0, 1, 2, 3, 4, 5, 6, 7, 8, 9, 10, 11, 12, 13], 0, 0, false⟩] [] (fun _ => [.cells [(aI v1), (.sl (l76 v2)), (.sl (l34 v3))]]) [1, 2, 5, 32] [(1, (aI v4)), (2, (.ptr 0 0)), (5, (aI v7)), (32, (.bool (v11 != v15)))] [.cells [(aI v1), (.sl (l76 v2)), (.sl (l34 v3))]] (by kernel_rfl) rfl rfl (by kernel_rfl) ?_ ?_
        · refine SA_plain hT 3 (by kernel_rfl) ?_
          refine SA_tell (v := (.rp [(.str v8), (.sl (l69 v9)), (aI v10)])) (by kernel_rfl) (by kernel_rfl) (by kernel_rfl) (fun L => (jX hT 3 (i34 h7))) ?_
          refine SA_plain hT 2 (by kernel_rfl) ?_
          refine SA_tell (v := (aI v11)) (by kernel_rfl) (by kernel_rfl) (by kernel_rfl) (fun L => (jP Go.Proofs.Try.func15 (F15_ok k4 v9 v11 h8))) ?_
          refine SA_plain hT 3 (by kernel_rfl) ?_
          refine SA_tell (v := (.rp [(.str v12), (.sl (l69 v13)), (aI v14)])) (by kernel_rfl) (by kernel_rfl) (by kernel_rfl) (fun L => (jX hT 3 (i34 h9))) ?_
          refine SA_plain hT 2 (by kernel_rfl) ?_
          refine SA_tell (v := (aI v15)) (by kernel_rfl) (by kernel_rfl) (by kernel_rfl) (fun L => (jP Go.Proofs.Try.func16 (F16_ok k4 v13 13 v15 h10))) ?_
          refine SA_plain hT 1 (by kernel_rfl) ?_
          exact SA_end (by kernel_rfl)
        refine AE_seqN ?_
        rcases bif_split h with ⟨h11, h⟩ | ⟨h11, h⟩
        · refine zT h11 ?_
          refine zs hT [4] [(4, (.bool false))] ?_
          refine AE_ret ?_
          refine AE_blkR ?_
          refine AE_seqR ?_
          refine AE_seqR ?_
          refine AE_blkR ?_
          refine AE_seqR ?_
          refine zK [4] [(4, (.bool false))] ?_
          simp only [Option.some.injEq] at h
          subst h
          exact zEnd
        · refine zN h11 ?_
          refine AE_skip ?_
          refine AE_blkN ?_
          refine AE_seqN ?_
          refine zr hT [1, 2, 5] [(1, (aI v4)), (2, (.ptr 0 0)), (5, (aI (IntKind.wrap .i64 (v7 + 1))))] ?_
          refine zK [1, 2, 5] [(1, (aI v4)), (2, (.ptr 0 0)), (5, (aI (IntKind.wrap .i64 (v7 + 1))))] ?_
          exact AE_done ⟨k4, by omega, by omega, (IntKind.wrap .i64 (v7 + 1)), rfl, rfl, h⟩
      · refine zN h6 ?_
        refine AE_exit ?_
        refine AE_seqX ?_
        refine AE_seqX ?_
        refine AE_blkH ?_
        refine AE_seqN ?_
        refine AW_seq ?_
        obtain ⟨⟨v16, v17, v18⟩, h12, h⟩ := bsm h
        try dsimp only at h
        refine AW_reg ?_
        refine zm hT 1 [1, 2, 33] [(1, (aI v4)), (2, (.ptr 0 0)), (33, (.agg [(aI v1), (.sl (l76 v2)), (.sl (l34 v3))]))] ?_
        refine zO (jP Go.Proofs.Try.func17 (F17_ok k4 v1 v2 v3 v16 v17 v18 h12)) ?_
        refine zE hT 2 [1, 2, 6] [(1, (aI v4)), (2, (.ptr 0 0)), (6, (.ptr 1 0))] [.cells [(aI v1), (.sl (l76 v2)), (.sl (l34 v3))], .cells [(aI v16), (.sl (l76 v17)), (.sl (l34 v18))]] ?_
        refine AE_seqN ?_
        refine AW_seq ?_
        refine AW_seq ?_
        obtain ⟨v19, h13, h⟩ := bsm h
        try dsimp only at h
        refine AW_reg ?_
        refine zm hT 1 [1, 2, 6, 35] [(1, (aI v4)), (2, (.ptr 0 0)), (6, (.ptr 1 0)), (35, (.agg [(aI v1), (.sl (l76 v2)), (.sl (l34 v3))]))] ?_
        refine zO (jP Go.Proofs.Try.func18 (F18_ok k4 v1 v2 v3 v19 h13)) ?_
        refine ze hT 1 [1, 2, 6, 37] [(1, (aI v4)), (2, (.ptr 0 0)), (6, (.ptr 1 0)), (37, (.bool (!v19)))] ?_
        refine AE_seqN ?_
        rcases bif_split h with ⟨h14, h⟩ | ⟨h14, h⟩
        · refine zT h14 ?_
          refine AW_seq ?_
          rcases bif_split h with ⟨h15, h⟩ | ⟨h15, h⟩
          · rcases bif_split h with ⟨h16, h⟩ | ⟨h16, h⟩
            · rcases bif_split h with ⟨h17, h⟩ | ⟨h17, h⟩
              · obtain ⟨v20, h18, h⟩ := bsm h
                try dsimp only at h
                rcases bif_split h with ⟨h19, h⟩ | ⟨h19, h⟩
                · obtain ⟨v21, h20, h⟩ := bsm h
                  try dsimp only at h
                  refine AW_reg ?_
                  refine zm hT 4 [2, 6, 41] [(2, (.ptr 0 0)), (6, (.ptr 1 0)), (41, (.bool (((l34 v18).length : Int) == 0)))] ?_
                  refine zO (jQ hT h15) ?_
                  refine zm hT 5 [2, 6, 47] [(2, (.ptr 0 0)), (6, (.ptr 1 0)), (47, (.bool (((l76 v17).length : Int) == 0)))] ?_
                  refine zO (jQ hT h16) ?_
                  refine zm hT 4 [2, 52] [(2, (.ptr 0 0)), (52, (.bool (v16 == 0)))] ?_
                  refine zO (jQ hT h17) ?_
                  refine zm hT 2 [53, 54, 55] [(53, (.bool true)), (54, (.agg [(aI v1), (.sl (l76 v2)), (.sl (l34 v3))])), (55, (.agg [(aI v1), (.sl (l76 v2)), (.sl (l34 v3))]))] ?_
                  refine zO (jP Go.Proofs.Try.func19 (F19_ok k4 v1 v2 v3 v1 v2 v3 v20 h18)) ?_
                  refine zm hT 2 [58] [(58, (.bool (!v20)))] ?_
                  refine zO (jQ hT h19) ?_
                  refine zO (jP Go.Proofs.Try.func11 (F11_ok k4  v21 h20)) ?_
                  refine ze hT 2 [4] [(4, (.bool v21))] ?_
                  refine AE_seqN ?_
                  refine AE_ret ?_
                  refine AE_seqR ?_
                  refine zK [4] [(4, (.bool v21))] ?_
                  simp only [Option.some.injEq] at h
                  subst h
                  exact zEnd
                · refine AW_reg ?_
                  refine zm hT 4 [2, 6, 41] [(2, (.ptr 0 0)), (6, (.ptr 1 0)), (41, (.bool (((l34 v18).length : Int) == 0)))] ?_
                  refine zO (jQ hT h15) ?_
                  refine zm hT 5 [2, 6, 47] [(2, (.ptr 0 0)), (6, (.ptr 1 0)), (47, (.bool (((l76 v17).length : Int) == 0)))] ?_
                  refine zO (jQ hT h16) ?_
                  refine zm hT 4 [2, 52] [(2, (.ptr 0 0)), (52, (.bool (v16 == 0)))] ?_
                  refine zO (jQ hT h17) ?_
                  refine zm hT 2 [53, 54, 55] [(53, (.bool true)), (54, (.agg [(aI v1), (.sl (l76 v2)), (.sl (l34 v3))])), (55, (.agg [(aI v1), (.sl (l76 v2)), (.sl (l34 v3))]))] ?_
                  refine zO (jP Go.Proofs.Try.func19 (F19_ok k4 v1 v2 v3 v1 v2 v3 v20 h18)) ?_
                  refine zm hT 2 [58] [(58, (.bool (!v20)))] ?_
                  refine zO (jQ hT h19) ?_
                  refine ze hT 3 [4] [(4, (.bool false))] ?_
                  refine AE_seqN ?_
                  refine AE_ret ?_
                  refine AE_seqR ?_
                  refine zK [4] [(4, (.bool false))] ?_
                  simp only [Option.some.injEq] at h
                  subst h
                  exact zEnd
              · refine AW_reg ?_
                refine zm hT 4 [2, 6, 41] [(2, (.ptr 0 0)), (6, (.ptr 1 0)), (41, (.bool (((l34 v18).length : Int) == 0)))] ?_
                refine zO (jQ hT h15) ?_
                refine zm hT 5 [2, 6, 47] [(2, (.ptr 0 0)), (6, (.ptr 1 0)), (47, (.bool (((l76 v17).length : Int) == 0)))] ?_
                refine zO (jQ hT h16) ?_
                refine zm hT 4 [2, 52] [(2, (.ptr 0 0)), (52, (.bool (v16 == 0)))] ?_
                refine zO (jQ hT h17) ?_
                refine ze hT 9 [4] [(4, (.bool false))] ?_
                refine AE_seqN ?_
                refine AE_ret ?_
                refine AE_seqR ?_
                refine zK [4] [(4, (.bool false))] ?_
                simp only [Option.some.injEq] at h
                subst h
                exact zEnd
            · refine AW_reg ?_
              refine zm hT 4 [2, 6, 41] [(2, (.ptr 0 0)), (6, (.ptr 1 0)), (41, (.bool (((l34 v18).length : Int) == 0)))] ?_
              refine zO (jQ hT h15) ?_
              refine zm hT 5 [2, 6, 47] [(2, (.ptr 0 0)), (6, (.ptr 1 0)), (47, (.bool (((l76 v17).length : Int) == 0)))] ?_
              refine zO (jQ hT h16) ?_
              refine ze hT 14 [4] [(4, (.bool false))] ?_
              refine AE_seqN ?_
              refine AE_ret ?_
              refine AE_seqR ?_
              refine zK [4] [(4, (.bool false))] ?_
              simp only [Option.some.injEq] at h
              subst h
              exact zEnd
          · refine AW_reg ?_
            refine zm hT 4 [2, 6, 41] [(2, (.ptr 0 0)), (6, (.ptr 1 0)), (41, (.bool (((l34 v18).length : Int) == 0)))] ?_
            refine zO (jQ hT h15) ?_
            refine ze hT 20 [4] [(4, (.bool false))] ?_
            refine AE_seqN ?_
            refine AE_ret ?_
            refine AE_seqR ?_
            refine zK [4] [(4, (.bool false))] ?_
            simp only [Option.some.injEq] at h
            subst h
            exact zEnd
        · refine zN h14 ?_
          refine AE_skip ?_
          refine AE_seqN ?_
          refine AW_seq ?_
          refine AW_join (fun env L => ∃ (v22 : Bool), env = [(1, (aI v4)), (2, (.ptr 0 0)), (6, (.ptr 1 0)), (76, (.bool v22))] ∧ L = [.cells [(aI v1), (.sl (l76 v2)), (.sl (l34 v3))], .cells [(aI v16), (.sl (l76 v17)), (.sl (l34 v18))]] ∧ ∃ n, n ≤ k4 ∧ F4_j1 n v4 v1 v2 v3 v16 v17 v18 v22 = some (r1)) ?_ ?_
          · obtain ⟨v23, h21, h⟩ := bsm h
            try dsimp only at h
            rcases bif_split h with ⟨h22, h⟩ | ⟨h22, h⟩
            · refine AW_reg ?_
              refine zm hT 2 [1, 2, 6, 62, 63] [(1, (aI v4)), (2, (.ptr 0 0)), (6, (.ptr 1 0)), (62, (.agg [(aI v1), (.sl (l76 v2)), (.sl (l34 v3))])), (63, (.agg [(aI v1), (.sl (l76 v2)), (.sl (l34 v3))]))] ?_
              refine zO (jP Go.Proofs.Try.func19 (F19_ok k4 v1 v2 v3 v1 v2 v3 v23 h21)) ?_
              refine zm hT 1 [1, 2, 6, 65] [(1, (aI v4)), (2, (.ptr 0 0)), (6, (.ptr 1 0)), (65, (.bool (!v23)))] ?_
              refine zO (jQ hT h22) ?_
              refine ze hT 10 [1, 2, 6, 76] [(1, (aI v4)), (2, (.ptr 0 0)), (6, (.ptr 1 0)), (76, (.bool true))] ?_
              refine zK [1, 2, 6, 76] [(1, (aI v4)), (2, (.ptr 0 0)), (6, (.ptr 1 0)), (76, (.bool true))] ?_
              exact AE_done ⟨true, rfl, rfl, k4, by omega, h⟩
            · obtain ⟨v24, h23, h⟩ := bsm h
              try dsimp only at h
              rcases bif_split h with ⟨h24, h⟩ | ⟨h24, h⟩
              · refine AW_reg ?_
                refine zm hT 2 [1, 2, 6, 62, 63] [(1, (aI v4)), (2, (.ptr 0 0)), (6, (.ptr 1 0)), (62, (.agg [(aI v1), (.sl (l76 v2)), (.sl (l34 v3))])), (63, (.agg [(aI v1), (.sl (l76 v2)), (.sl (l34 v3))]))] ?_
                refine zO (jP Go.Proofs.Try.func19 (F19_ok k4 v1 v2 v3 v1 v2 v3 v23 h21)) ?_
                refine zm hT 1 [1, 2, 6, 65] [(1, (aI v4)), (2, (.ptr 0 0)), (6, (.ptr 1 0)), (65, (.bool (!v23)))] ?_
                refine zO (jQ hT h22) ?_
                refine zm hT 2 [1, 2, 6, 66, 67, 68] [(1, (aI v4)), (2, (.ptr 0 0)), (6, (.ptr 1 0)), (66, (.bool false)), (67, (.agg [(aI v1), (.sl (l76 v2)), (.sl (l34 v3))])), (68, (.agg [(aI v16), (.sl (l76 v17)), (.sl (l34 v18))]))] ?_
                refine zO (jP Go.Proofs.Try.func19 (F19_ok k4 v1 v2 v3 v16 v17 v18 v24 h23)) ?_
                refine zm hT 2 [1, 2, 6, 71] [(1, (aI v4)), (2, (.ptr 0 0)), (6, (.ptr 1 0)), (71, (.bool (!v24)))] ?_
                refine zO (jQ hT h24) ?_
                refine ze hT 4 [1, 2, 6, 76] [(1, (aI v4)), (2, (.ptr 0 0)), (6, (.ptr 1 0)), (76, (.bool true))] ?_
                refine zK [1, 2, 6, 76] [(1, (aI v4)), (2, (.ptr 0 0)), (6, (.ptr 1 0)), (76, (.bool true))] ?_
                exact AE_done ⟨true, rfl, rfl, k4, by omega, h⟩
              · obtain ⟨v25, h25, h⟩ := bsm h
                try dsimp only at h
                refine AW_reg ?_
                refine zm hT 2 [1, 2, 6, 62, 63] [(1, (aI v4)), (2, (.ptr 0 0)), (6, (.ptr 1 0)), (62, (.agg [(aI v1), (.sl (l76 v2)), (.sl (l34 v3))])), (63, (.agg [(aI v1), (.sl (l76 v2)), (.sl (l34 v3))]))] ?_
                refine zO (jP Go.Proofs.Try.func19 (F19_ok k4 v1 v2 v3 v1 v2 v3 v23 h21)) ?_
                refine zm hT 1 [1, 2, 6, 65] [(1, (aI v4)), (2, (.ptr 0 0)), (6, (.ptr 1 0)), (65, (.bool (!v23)))] ?_
                refine zO (jQ hT h22) ?_
                refine zm hT 2 [1, 2, 6, 66, 67, 68] [(1, (aI v4)), (2, (.ptr 0 0)), (6, (.ptr 1 0)), (66, (.bool false)), (67, (.agg [(aI v1), (.sl (l76 v2)), (.sl (l34 v3))])), (68, (.agg [(aI v16), (.sl (l76 v17)), (.sl (l34 v18))]))] ?_
                refine zO (jP Go.Proofs.Try.func19 (F19_ok k4 v1 v2 v3 v16 v17 v18 v24 h23)) ?_
                refine zm hT 2 [1, 2, 6, 71] [(1, (aI v4)), (2, (.ptr 0 0)), (6, (.ptr 1 0)), (71, (.bool (!v24)))] ?_
                refine zO (jQ hT h24) ?_
                refine zm hT 1 [1, 2, 6, 72, 73] [(1, (aI v4)), (2, (.ptr 0 0)), (6, (.ptr 1 0)), (72, (.bool false)), (73, (.agg [(aI v16), (.sl (l76 v17)), (.sl (l34 v18))]))] ?_
                refine zO (jP Go.Proofs.Try.func20 (F20_ok k4 v16 v17 v18 v25 h25)) ?_
                refine ze hT 2 [1, 2, 6, 76] [(1, (aI v4)), (2, (.ptr 0 0)), (6, (.ptr 1 0)), (76, (.bool (!v25)))] ?_
                refine zK [1, 2, 6, 76] [(1, (aI v4)), (2, (.ptr 0 0)), (6, (.ptr 1 0)), (76, (.bool (!v25)))] ?_
                exact AE_done ⟨(!v25), rfl, rfl, k4, by omega, h⟩
          · rintro _ _ ⟨v22, rfl, rfl, n, hn, h⟩
            obtain ⟨k26, rfl⟩ : ∃ q, q = n := ⟨n, rfl⟩
            rw [F4_j1] at h
            rcases bif_split h with ⟨h28, h⟩ | ⟨h28, h⟩
            · refine zT h28 ?_
              refine zs hT [4] [(4, (.bool false))] ?_
              refine AE_ret ?_
              refine AE_seqR ?_
              refine zK [4] [(4, (.bool false))] ?_
              simp only [Option.some.injEq] at h
              subst h
              exact zEnd
            · refine zN h28 ?_
              refine AE_skip ?_
              refine AE_seqN ?_
              refine AW_seq ?_
              obtain ⟨v26, h29, h⟩ := bsm h
              try dsimp only at h
              refine AW_reg ?_
              refine zO (OpJ_builtRow hT (e := 35) (k := 3) (xs := l34 []) true 2 (by kernel_rfl) rfl ⟨_, _, _, rfl⟩) ?_
              refine zm hT 2 [1, 2, 6, 77, 79] [(1, (aI v4)), (2, (.ptr 0 0)), (6, (.ptr 1 0)), (77, (.gr 2 (l34 []).length)), (79, (.sl (l34 v3)))] ?_
              refine zO (jA hT l34_map e34_k e34_one [.cells [(aI v1), (.sl (l76 v2)), (.sl (l34 v3))], .cells [(aI v16), (.sl (l76 v17)), (.sl (l34 v18))], .row true 35 3 (l34 v26)] true 35 (.gr 2 (l34 []).length) (.sl (l34 v3)) 2 (l34 []).length Weak.refl rfl Weak.refl h29) ?_
              refine zE hT 2 [1, 2, 6] [(1, (aI v4)), (2, (.ptr 0 0)), (6, (.ptr 1 0))] [.cells [(aI v1), (.sl (l76 v2)), (.gr 2 (l34 v26).length)], .cells [(aI v16), (.sl (l76 v17)), (.sl (l34 v18))], .row true 35 3 (l34 v26)] ?_
              refine AE_seqN ?_
              refine AW_seq ?_
              obtain ⟨⟨v27, v28, v29⟩, h30, h⟩ := bsm h
              try dsimp only at h
              refine AW_reg ?_
              refine zm hT 3 [2, 6, 83, 84] [(2, (.ptr 0 0)), (6, (.ptr 1 0)), (83, (.gr 2 (l34 v26).length)), (84, (aI v4))] ?_
              refine zO (OpJ_indexMu hT l34_map (mu := true) (e := 35) (k := 3) (n := (l34 v26).length) (xs := v26) (r := 2) (j := 0) (by kernel_rfl) (by kernel_rfl) rfl h30) ?_
              refine zm hT 1 [2, 6, 84, 86] [(2, (.ptr 0 0)), (6, (.ptr 1 0)), (84, (aI v4)), (86, (.gp 2 (l34 v26).length (Int.toNat 0) 2))] ?_
              refine zO (OpJ_storeMu hT l34_map (L' := [.cells [(aI v1), (.sl (l76 v2)), (.gr 2 (l34 v26).length)], .cells [(aI v16), (.sl (l76 v17)), (.sl (l34 v18))], .row true 35 3 (l34 (List.set v26 (Int.toNat 0) (T34.mk v27 v28 v4)))]) (e := 35) (k := 3) (n := (l34 v26).length) (sz := 1) (w := (aI v4)) (xs := v26) (r := 2) (off := 2) (j := 0) (y := (T34.mk v27 v28 v29)) (y' := (T34.mk v27 v28 v4)) (by kernel_rfl) (by kernel_rfl) rfl h30 (by kernel_rfl) (by first | rfl | simp [mkElem, putAt, AV.cells, e34]) (by first | rfl | kernel_rfl)) ?_
              refine zF ?_
              refine zK [2, 6] [(2, (.ptr 0 0)), (6, (.ptr 1 0))] ?_
              refine AE_seqN ?_
              refine AW_seq ?_
              obtain ⟨v30, h31, h⟩ := bsm h
              try dsimp only at h
              rcases bif_split h with ⟨h32, h⟩ | ⟨h32, h⟩
              · obtain ⟨v31, h33, h⟩ := bsm h
                try dsimp only at h
                refine AW_reg ?_
                refine zm hT 2 [87, 88] [(87, (.agg [(aI v1), (.sl (l76 v2)), (.gr 2 (l34 v26).length)])), (88, (.agg [(aI v16), (.sl (l76 v17)), (.sl (l34 v18))]))] ?_
                refine zO (OpJ_gh (Gh.still 2 (e := 35) (k := 3) (xs := l34 (List.set v26 (Int.toNat 0) (T34.mk v27 v28 v4))) (by kernel_rfl) (L' := [.cells [(aI v1), (.sl (l76 v2)), (.gr 2 (l34 v26).length)], .cells [(aI v16), (.sl (l76 v17)), (.sl (l34 v18))], .row false 35 3 (l34 (List.set v26 (Int.toNat 0) (T34.mk v27 v28 v4)))]) (by kernel_rfl)) (jC Go.Proofs.Try.func19 (Fn_args (args := [(.agg [(aI v1), (.sl (l76 v2)), (.gr 2 (l34 v26).length)]), (.agg [(aI v16), (.sl (l76 v17)), (.sl (l34 v18))])]) (args' := [(.agg [(aI v1), (.sl (l76 v2)), (.sl (l34 (List.set v26 (Int.toNat 0) (T34.mk v27 v28 v4))))]), (.agg [(aI v16), (.sl (l76 v17)), (.sl (l34 v18))])]) (fP (F19_ok k26 v1 v2 (List.set v26 (Int.toNat 0) (T34.mk v27 v28 v4)) v16 v17 v18 v30 h31)) ⟨(Weak.aggs ⟨Weak.refl, Weak.refl, (Weak.view (e := 35) (k := 3) (xs := l34 (List.set v26 (Int.toNat 0) (T34.mk v27 v28 v4))) (by kernel_rfl) (by simp [l34_len])), trivial⟩ (by kernel_rfl)), Weak.refl, trivial⟩))) ?_
                refine zO (jQ hT h32) ?_
                refine zO (jP Go.Proofs.Try.func11 (F11_ok k26  v31 h33)) ?_
                refine ze hT 2 [4] [(4, (.bool v31))] ?_
                refine AE_seqN ?_
                refine AE_ret ?_
                refine zK [4] [(4, (.bool v31))] ?_
                simp only [Option.some.injEq] at h
                subst h
                exact zEnd
              · refine AW_reg ?_
                refine zm hT 2 [87, 88] [(87, (.agg [(aI v1), (.sl (l76 v2)), (.gr 2 (l34 v26).length)])), (88, (.agg [(aI v16), (.sl (l76 v17)), (.sl (l34 v18))]))] ?_
                refine zO (OpJ_gh (Gh.still 2 (e := 35) (k := 3) (xs := l34 (List.set v26 (Int.toNat 0) (T34.mk v27 v28 v4))) (by kernel_rfl) (L' := [.cells [(aI v1), (.sl (l76 v2)), (.gr 2 (l34 v26).length)], .cells [(aI v16), (.sl (l76 v17)), (.sl (l34 v18))], .row false 35 3 (l34 (List.set v26 (Int.toNat 0) (T34.mk v27 v28 v4)))]) (by kernel_rfl)) (jC Go.Proofs.Try.func19 (Fn_args (args := [(.agg [(aI v1), (.sl (l76 v2)), (.gr 2 (l34 v26).length)]), (.agg [(aI v16), (.sl (l76 v17)), (.sl (l34 v18))])]) (args' := [(.agg [(aI v1), (.sl (l76 v2)), (.sl (l34 (List.set v26 (Int.toNat 0) (T34.mk v27 v28 v4))))]), (.agg [(aI v16), (.sl (l76 v17)), (.sl (l34 v18))])]) (fP (F19_ok k26 v1 v2 (List.set v26 (Int.toNat 0) (T34.mk v27 v28 v4)) v16 v17 v18 v30 h31)) ⟨(Weak.aggs ⟨Weak.refl, Weak.refl, (Weak.view (e := 35) (k := 3) (xs := l34 (List.set v26 (Int.toNat 0) (T34.mk v27 v28 v4))) (by kernel_rfl) (by simp [l34_len])), trivial⟩ (by kernel_rfl)), Weak.refl, trivial⟩))) ?_
                refine zO (jQ hT h32) ?_
                refine ze hT 3 [4] [(4, (.bool false))] ?_
                refine AE_seqN ?_
                refine AE_ret ?_
                refine zK [4] [(4, (.bool false))] ?_
                simp only [Option.some.injEq] at h
                subst h
                exact zEnd
end Go.Vm
