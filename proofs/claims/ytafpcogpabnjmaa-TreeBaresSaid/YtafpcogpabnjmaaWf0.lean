/- Printed by gen.py: functions of the program as Lean functions, and that they do what these say. -/
import Derived.Test.YtafpcogpabnjmaaWt
set_option linter.unusedVariables false
set_option linter.unusedSimpArgs false
set_option linter.unusedSectionVars false
set_option maxRecDepth 20000
namespace Go.Vm
mutual
def F71 : Nat → Int → ByteArray → Int → ByteArray → (List T57) → Int → Int → Option (Int)
  | 0, _, _, _, _, _, _, _ => none
  | k + 1, v1, v2, v3, v4, v5, v6, v7 =>
    F71_l0 k v7 v5 1 0
def F71_j1 : Nat → Int → (List T57) → Int → Int → Bool → Option (Int)
  | 0, _, _, _, _, _ => none
  | k4 + 1, v7, v5, v10, v11, v12 =>
    (bif v12 then
      ((idx v5 v11).bind fun ⟨v13, v14, v15, v16, v17, v18⟩ =>
        ((F71 k4 v13 v14 v15 v16 v17 v18 v7).bind fun v19 =>
          F71_l0 k4 v7 v5 (IntKind.wrap .i64 (v10 + v19)) (IntKind.wrap .i64 (v11 + 1))))
    else
      some (v10))
def F71_l0 : Nat → Int → (List T57) → Int → Int → Option (Int)
  | 0, _, _, _, _ => none
  | k1 + 1, v7, v5, v8, v9 =>
    (bif (decide (v9 < ((l57 v5).length : Int))) then
      F71_j1 k1 v7 v5 v8 v9 (decide (v8 ≤ v7))
    else
      F71_j1 k1 v7 v5 v8 v9 false)
end

theorem F71_step (K0 : Nat) (ih_F71 : ∀ k, k < K0 → ∀ (v1 : Int) (v2 : ByteArray) (v3 : Int) (v4 : ByteArray) (v5 : (List T57)) (v6 : Int) (v7 : Int) (r1 : Int), F71 k v1 v2 v3 v4 v5 v6 v7 = some (r1) → Fn prog 71 [(.agg [(aI v1), (.str v2), (aI v3), (.str v4), (.sl (l57 v5)), (aI v6)]), (aI v7)] [] (aI r1) []) : ∀ (v1 : Int) (v2 : ByteArray) (v3 : Int) (v4 : ByteArray) (v5 : (List T57)) (v6 : Int) (v7 : Int) (r1 : Int), F71 K0 v1 v2 v3 v4 v5 v6 v7 = some (r1) → Fn prog 71 [(.agg [(aI v1), (.str v2), (aI v3), (.str v4), (.sl (l57 v5)), (aI v6)]), (aI v7)] [] (aI r1) [] := by
  intro v1 v2 v3 v4 v5 v6 v7 r1 h
  cases K0 with
  | zero => rw [F71] at h; cases h
  | succ k =>
    have hk : k < k + 1 := Nat.lt_succ_self k
    rw [F71] at h
    refine Fn_bodyK hT Go.Proofs.Try.func71 (c := Go.Proofs.Try.f71.body.getD .skip) (by kernel_rfl) (by kernel_rfl) (by kernel_rfl) ?_
    refine zS hT [1, 2] [(1, (aI v7)), (2, (.ptr 0 0))] [.cells [(aI v1), (.str v2), (aI v3), (.str v4), (.sl (l57 v5)), (aI v6)]] ?_
    refine zs hT [1, 2, 5] [(1, (aI v7)), (2, (.ptr 0 0)), (5, (aI 1))] ?_
    refine AW_seq ?_
    refine zs hT [1, 2, 5, 6] [(1, (aI v7)), (2, (.ptr 0 0)), (5, (aI 1)), (6, (aI 0))] ?_
    refine AW_block ?_
    refine zKw [1, 2, 5, 6] [(1, (aI v7)), (2, (.ptr 0 0)), (5, (aI 1)), (6, (aI 0))] ?_
    refine AW_loop (fun n env L => n ≤ k ∧ ∃ (v8 : Int) (v9 : Int), env = [(1, (aI v7)), (2, (.ptr 0 0)), (5, (aI v8)), (6, (aI v9))] ∧ L = [.cells [(aI v1), (.str v2), (aI v3), (.str v4), (.sl (l57 v5)), (aI v6)]] ∧ F71_l0 n v7 v5 v8 v9 = some (r1)) k ⟨Nat.le_refl _, 1, 0, rfl, rfl, h⟩ ?_
    rintro n _ _ ⟨hn, v8, v9, rfl, rfl, h⟩
    cases n with
    | zero => rw [F71_l0] at h; cases h
    | succ k1 =>
      have h2 : k1 < (k + 1) := by omega
      rw [F71_l0] at h
      refine AW_seq ?_
      refine AW_join (fun env L => ∃ (v10 : Int) (v11 : Int) (v12 : Bool), env = [(1, (aI v7)), (2, (.ptr 0 0)), (5, (aI v10)), (6, (aI v11)), (16, (.bool v12))] ∧ L = [.cells [(aI v1), (.str v2), (aI v3), (.str v4), (.sl (l57 v5)), (aI v6)]] ∧ ∃ n, n ≤ k1 ∧ F71_j1 n v7 v5 v10 v11 v12 = some (r1)) ?_ ?_
      · rcases bif_split h with ⟨h3, h⟩ | ⟨h3, h⟩
        · refine AW_reg ?_
          refine zm hT 5 [1, 2, 5, 6, 11] [(1, (aI v7)), (2, (.ptr 0 0)), (5, (aI v8)), (6, (aI v9)), (11, (.bool (decide (v9 < ((l57 v5).length : Int)))))] ?_
          refine zO (jQ hT h3) ?_
          refine ze hT 4 [1, 2, 5, 6, 16] [(1, (aI v7)), (2, (.ptr 0 0)), (5, (aI v8)), (6, (aI v9)), (16, (.bool (decide (v8 ≤ v7))))] ?_
          refine zK [1, 2, 5, 6, 16] [(1, (aI v7)), (2, (.ptr 0 0)), (5, (aI v8)), (6, (aI v9)), (16, (.bool (decide (v8 ≤ v7))))] ?_
          exact AE_done ⟨v8, v9, (decide (v8 ≤ v7)), rfl, rfl, k1, by omega, h⟩
        · refine AW_reg ?_
          refine zm hT 5 [1, 2, 5, 6, 11] [(1, (aI v7)), (2, (.ptr 0 0)), (5, (aI v8)), (6, (aI v9)), (11, (.bool (decide (v9 < ((l57 v5).length : Int)))))] ?_
          refine zO (jQ hT h3) ?_
          refine ze hT 4 [1, 2, 5, 6, 16] [(1, (aI v7)), (2, (.ptr 0 0)), (5, (aI v8)), (6, (aI v9)), (16, (.bool false))] ?_
          refine zK [1, 2, 5, 6, 16] [(1, (aI v7)), (2, (.ptr 0 0)), (5, (aI v8)), (6, (aI v9)), (16, (.bool false))] ?_
          exact AE_done ⟨v8, v9, false, rfl, rfl, k1, by omega, h⟩
      · rintro _ _ ⟨v10, v11, v12, rfl, rfl, n, hn, h⟩
        obtain _ | k4 := n
        · rw [F71_j1] at h; cases h
        have h5 : k4 < (k + 1) := by omega
        rw [F71_j1] at h
        rcases bif_split h with ⟨h6, h⟩ | ⟨h6, h⟩
        · refine zT h6 ?_
          refine AE_skip ?_
          refine AE_seqN ?_
          refine AW_seq ?_
          refine AW_block ?_
          obtain ⟨⟨v13, v14, v15, v16, v17, v18⟩, h7, h⟩ := bsm h
          try dsimp only at h
          obtain ⟨v19, h8, h⟩ := bsm h
          try dsimp only at h
          refine AW_reg ?_
          refine zm hT 4 [1, 2, 5, 6, 19, 21, 22] [(1, (aI v7)), (2, (.ptr 0 0)), (5, (aI v10)), (6, (aI v11)), (19, (aI v10)), (21, (.sl (l57 v5))), (22, (aI v11))] ?_
          refine zO (jX hT 6 (i57 h7)) ?_
          refine zm hT 2 [1, 2, 5, 6, 19, 24, 25] [(1, (aI v7)), (2, (.ptr 0 0)), (5, (aI v10)), (6, (aI v11)), (19, (aI v10)), (24, (.agg [(aI v13), (.str v14), (aI v15), (.str v16), (.sl (l57 v17)), (aI v18)])), (25, (aI v7))] ?_
          refine zO (jP Go.Proofs.Try.func71 (ih_F71 k4 h5 v13 v14 v15 v16 v17 v18 v7 v19 h8)) ?_
          refine ze hT 2 [1, 2, 5, 6] [(1, (aI v7)), (2, (.ptr 0 0)), (5, (aI (IntKind.wrap .i64 (v10 + v19)))), (6, (aI v11))] ?_
          refine AE_blkN ?_
          refine AE_seqN ?_
          refine zr hT [1, 2, 5, 6] [(1, (aI v7)), (2, (.ptr 0 0)), (5, (aI (IntKind.wrap .i64 (v10 + v19)))), (6, (aI (IntKind.wrap .i64 (v11 + 1))))] ?_
          refine zK [1, 2, 5, 6] [(1, (aI v7)), (2, (.ptr 0 0)), (5, (aI (IntKind.wrap .i64 (v10 + v19)))), (6, (aI (IntKind.wrap .i64 (v11 + 1))))] ?_
          exact AE_done ⟨k4, by omega, by omega, (IntKind.wrap .i64 (v10 + v19)), (IntKind.wrap .i64 (v11 + 1)), rfl, rfl, h⟩
        · refine zN h6 ?_
          refine AE_exit ?_
          refine AE_seqX ?_
          refine AE_seqX ?_
          refine AE_blkH ?_
          refine AE_seqN ?_
          refine zs hT [4] [(4, (aI v10))] ?_
          refine AE_ret ?_
          refine zK [4] [(4, (aI v10))] ?_
          simp only [Option.some.injEq] at h
          subst h
          exact zEnd

theorem F71_all (K0 : Nat) : (∀ (v1 : Int) (v2 : ByteArray) (v3 : Int) (v4 : ByteArray) (v5 : (List T57)) (v6 : Int) (v7 : Int) (r1 : Int), F71 K0 v1 v2 v3 v4 v5 v6 v7 = some (r1) → Fn prog 71 [(.agg [(aI v1), (.str v2), (aI v3), (.str v4), (.sl (l57 v5)), (aI v6)]), (aI v7)] [] (aI r1) []) := by
  induction K0 using Nat.strongRecOn with
  | ind K0 ih => exact F71_step K0 (fun k hk => (ih k hk))

theorem F71_ok (K0 : Nat) : ∀ (v1 : Int) (v2 : ByteArray) (v3 : Int) (v4 : ByteArray) (v5 : (List T57)) (v6 : Int) (v7 : Int) (r1 : Int), F71 K0 v1 v2 v3 v4 v5 v6 v7 = some (r1) → Fn prog 71 [(.agg [(aI v1), (.str v2), (aI v3), (.str v4), (.sl (l57 v5)), (aI v6)]), (aI v7)] [] (aI r1) [] := (F71_all K0)

mutual
def F36 : Nat → (List T69) → Int → Option (Int)
  | 0, _, _ => none
  | k + 1, v1, v2 =>
    F36_l0 k v1 v2 0 0
def F36_j1 : Nat → (List T69) → Int → Int → Int → Bool → Option (Int)
  | 0, _, _, _, _, _ => none
  | k4 + 1, v1, v2, v5, v6, v7 =>
    (bif v7 then
      ((idx v1 v6).bind fun ⟨v8, v9, v10, v11, v12, v13, v14⟩ =>
        ((idx v1 v6).bind fun ⟨v15, v16, v17, v18, v19, v20, v21⟩ =>
          ((F36 k4 v19 v2).bind fun v22 =>
            ((idx v1 v6).bind fun ⟨v23, v24, v25, v26, v27, v28, v29⟩ =>
              ((F36 k4 v28 v2).bind fun v30 =>
                F36_l2 k4 v1 v2 (IntKind.wrap .i64 ((IntKind.wrap .i64 ((IntKind.wrap .i64 ((IntKind.wrap .i64 (v5 + 1)) + ((l57 v11).length : Int))) + v22)) + v30)) v6 0)))))
    else
      some (v5))
def F36_j3 : Nat → (List T69) → Int → Int → Int → Int → Bool → Option (Int)
  | 0, _, _, _, _, _, _ => none
  | k16 + 1, v1, v2, v34, v35, v36, v37 =>
    (bif v37 then
      ((idx v1 v35).bind fun ⟨v45, v46, v47, v48, v49, v50, v51⟩ =>
        ((idx v48 v36).bind fun ⟨v52, v53, v54, v55, v56, v57⟩ =>
          ((F71 k16 v52 v53 v54 v55 v56 v57 v2).bind fun v58 =>
            F36_l2 k16 v1 v2 (IntKind.wrap .i64 (v34 + v58)) v35 (IntKind.wrap .i64 (v36 + 1)))))
    else
      F36_l0 k16 v1 v2 v34 (IntKind.wrap .i64 (v35 + 1)))
def F36_l0 : Nat → (List T69) → Int → Int → Int → Option (Int)
  | 0, _, _, _, _ => none
  | k1 + 1, v1, v2, v3, v4 =>
    (bif (decide (v4 < ((l69 v1).length : Int))) then
      F36_j1 k1 v1 v2 v3 v4 (decide (v3 ≤ v2))
    else
      F36_j1 k1 v1 v2 v3 v4 false)
def F36_l2 : Nat → (List T69) → Int → Int → Int → Int → Option (Int)
  | 0, _, _, _, _, _ => none
  | k12 + 1, v1, v2, v31, v32, v33 =>
    ((idx v1 v32).bind fun ⟨v38, v39, v40, v41, v42, v43, v44⟩ =>
      (bif (decide (v33 < ((l57 v41).length : Int))) then
        F36_j3 k12 v1 v2 v31 v32 v33 (decide (v31 ≤ v2))
      else
        F36_j3 k12 v1 v2 v31 v32 v33 false))
end

theorem F36_step (K0 : Nat) (ih_F36 : ∀ k, k < K0 → ∀ (v1 : (List T69)) (v2 : Int) (r1 : Int), F36 k v1 v2 = some (r1) → Fn prog 36 [(.sl (l69 v1)), (aI v2)] [] (aI r1) []) : ∀ (v1 : (List T69)) (v2 : Int) (r1 : Int), F36 K0 v1 v2 = some (r1) → Fn prog 36 [(.sl (l69 v1)), (aI v2)] [] (aI r1) [] := by
  intro v1 v2 r1 h
  cases K0 with
  | zero => rw [F36] at h; cases h
  | succ k =>
    have hk : k < k + 1 := Nat.lt_succ_self k
    rw [F36] at h
    refine Fn_bodyK hT Go.Proofs.Try.func36 (c := Go.Proofs.Try.f36.body.getD .skip) (by kernel_rfl) (by kernel_rfl) (by kernel_rfl) ?_
    refine zs hT [0, 1] [(0, (.sl (l69 v1))), (1, (aI v2))] ?_
    refine zs hT [0, 1, 5] [(0, (.sl (l69 v1))), (1, (aI v2)), (5, (aI 0))] ?_
    refine AW_seq ?_
    refine zs hT [0, 1, 5, 6] [(0, (.sl (l69 v1))), (1, (aI v2)), (5, (aI 0)), (6, (aI 0))] ?_
    refine AW_block ?_
    refine zKw [0, 1, 5, 6] [(0, (.sl (l69 v1))), (1, (aI v2)), (5, (aI 0)), (6, (aI 0))] ?_
    refine AW_loop (fun n env L => n ≤ k ∧ ∃ (v3 : Int) (v4 : Int), env = [(0, (.sl (l69 v1))), (1, (aI v2)), (5, (aI v3)), (6, (aI v4))] ∧ L = [] ∧ F36_l0 n v1 v2 v3 v4 = some (r1)) k ⟨Nat.le_refl _, 0, 0, rfl, rfl, h⟩ ?_
    rintro n _ _ ⟨hn, v3, v4, rfl, rfl, h⟩
    cases n with
    | zero => rw [F36_l0] at h; cases h
    | succ k1 =>
      have h2 : k1 < (k + 1) := by omega
      rw [F36_l0] at h
      refine AW_seq ?_
      refine AW_join (fun env L => ∃ (v5 : Int) (v6 : Int) (v7 : Bool), env = [(0, (.sl (l69 v1))), (1, (aI v2)), (5, (aI v5)), (6, (aI v6)), (16, (.bool v7))] ∧ L = [] ∧ ∃ n, n ≤ k1 ∧ F36_j1 n v1 v2 v5 v6 v7 = some (r1)) ?_ ?_
      · rcases bif_split h with ⟨h3, h⟩ | ⟨h3, h⟩
        · refine AW_reg ?_
          refine zm hT 4 [0, 1, 5, 6, 11] [(0, (.sl (l69 v1))), (1, (aI v2)), (5, (aI v3)), (6, (aI v4)), (11, (.bool (decide (v4 < ((l69 v1).length : Int)))))] ?_
          refine zO (jQ hT h3) ?_
          refine ze hT 4 [0, 1, 5, 6, 16] [(0, (.sl (l69 v1))), (1, (aI v2)), (5, (aI v3)), (6, (aI v4)), (16, (.bool (decide (v3 ≤ v2))))] ?_
          refine zK [0, 1, 5, 6, 16] [(0, (.sl (l69 v1))), (1, (aI v2)), (5, (aI v3)), (6, (aI v4)), (16, (.bool (decide (v3 ≤ v2))))] ?_
          exact AE_done ⟨v3, v4, (decide (v3 ≤ v2)), rfl, rfl, k1, by omega, h⟩
        · refine AW_reg ?_
          refine zm hT 4 [0, 1, 5, 6, 11] [(0, (.sl (l69 v1))), (1, (aI v2)), (5, (aI v3)), (6, (aI v4)), (11, (.bool (decide (v4 < ((l69 v1).length : Int)))))] ?_
          refine zO (jQ hT h3) ?_
          refine ze hT 4 [0, 1, 5, 6, 16] [(0, (.sl (l69 v1))), (1, (aI v2)), (5, (aI v3)), (6, (aI v4)), (16, (.bool false))] ?_
          refine zK [0, 1, 5, 6, 16] [(0, (.sl (l69 v1))), (1, (aI v2)), (5, (aI v3)), (6, (aI v4)), (16, (.bool false))] ?_
          exact AE_done ⟨v3, v4, false, rfl, rfl, k1, by omega, h⟩
      · rintro _ _ ⟨v5, v6, v7, rfl, rfl, n, hn, h⟩
        obtain _ | k4 := n
        · rw [F36_j1] at h; cases h
        have h5 : k4 < (k + 1) := by omega
        rw [F36_j1] at h
        rcases bif_split h with ⟨h6, h⟩ | ⟨h6, h⟩
        · refine zT h6 ?_
          refine AE_skip ?_
          refine AE_seqN ?_
          refine AW_seq ?_
          refine AW_block ?_
          refine AW_seq ?_
          obtain ⟨⟨v8, v9, v10, v11, v12, v13, v14⟩, h7, h⟩ := bsm h
          try dsimp only at h
          obtain ⟨⟨v15, v16, v17, v18, v19, v20, v21⟩, h8, h⟩ := bsm h
          try dsimp only at h
          obtain ⟨v22, h9, h⟩ := bsm h
          try dsimp only at h
          obtain ⟨⟨v23, v24, v25, v26, v27, v28, v29⟩, h10, h⟩ := bsm h
          try dsimp only at h
          obtain ⟨v30, h11, h⟩ := bsm h
          try dsimp only at h
          refine AW_drx hmix [⟨(aI v5), [], 0, 0, false⟩, ⟨(aI (IntKind.wrap .i64 (v5 + 1))), [0], 0, 0, false⟩, ⟨(.sl (l69 v1)), [], 0, 0, false⟩, ⟨(aI v6), [], 0, 0, false⟩, ⟨(.rp [(aI v8), (.str v9), (.str v10), (.sl (l57 v11)), (.sl (l69 v12)), (.sl (l69 v13)), (aI v14)]), [2, 3], 0, 0, false⟩, ⟨(.rp [(.sl (l57 v11)), (.sl (l69 v12)), (.sl (l69 v13)), (aI v14)]), [2, 3, 4], 0, 0, false⟩, ⟨(.sl (l57 v11)), [2, 3, 4, 5], 0, 0, false⟩, ⟨(aI ((l57 v11).length : Int)), [2, 3, 4, 5, 6], 0, 0, false⟩, ⟨(aI (IntKind.wrap .i64 ((IntKind.wrap .i64 (v5 + 1)) + ((l57 v11).length : Int)))), [0, 1, 2, 3, 4, 5, 6, 7], 0, 0, false⟩, ⟨(.sl (l69 v1)), [], 0, 0, false⟩, ⟨(aI v6), [], 0, 0, false⟩, ⟨(.rp [(aI v15), (.str v16), (.str v17), (.sl (l57 v18)), (.sl (l69 v19)), (.sl (l69 v20)), (aI v21)]), [9, 10], 0, 0, false⟩, ⟨(.rp [(.sl (l69 v19)), (.sl (l69 v20)), (aI v21)]), [9, 10, 11], 0, 0, false⟩, ⟨(.sl (l69 v19)), [9, 10, 11, 12], 0, 0, false⟩, ⟨(aI v2), [], 0, 0, false⟩, ⟨(aI v22), [9, 10, 11, 12, 13, 14], 0, 0, false⟩, ⟨(aI (IntKind.wrap .i64 ((IntKind.wrap .i64 ((IntKind.wrap .i64 (v5 + 1)) + ((l57 v11).length : Int))) + v22))), [0, 1, 2, 3, 4, 5, 6, 7, 8, 9, 10, 11, 12, 13, 14, 15], 0, 0, false⟩, ⟨(.sl (l69 v1)), [], 0, 0, false⟩, ⟨(aI v6), [], 0, 0, false⟩, ⟨(.rp [(aI v23), (.str v24), (.str v25), (.sl (l57 v26)), (.sl (l69 v27)), (.sl (l69 v28)), (aI v29)]), [17, 18], 0, 0, false⟩, ⟨(.rp [(.sl (l69 v28)), (aI v29)]), [17, 18, 19], 0, 0, false⟩, ⟨(.sl (l69 v28)), [17, 18, 19, 20], 0, 0, false⟩, ⟨(aI v2), [], 0, 0, false⟩, ⟨(aI v30), [9, 10, 11, 12, 13, 14, 15, 17, 18, 19, 20, 21, 22], 0, 0, false⟩, ⟨(aI (IntKind.wrap .i64 ((IntKind.wrap .i64 ((IntKind.wrap .i64 ((IntKind.wrap .i64 (v5 + 1)) + ((l57 v11).length : Int))) + v22)) + v30))), [0, 1, 2, 3, 4, 5, 6, 7, 8, 9, 10, 11, 12, 13, 14, 15, 16, 17, 18, 19, 20, 21, 22, 23], 0, 0, false⟩, ⟨(aI (IntKind.wrap .i64 ((IntKind.wrap .i64 ((IntKind.wrap .i64 ((IntKind.wrap .i64 (v5 + 1)) + ((l57 v11).length : Int))) + v22)) + v30))), [0, 1, 2, 3, 4, 5, 6, 7, 8, 9, 10, 11, 12, 13, 14, 15, 16, 17, 18, 19, 20, 21, 22, 23, 24], 0, 0, false⟩] [] (fun _ => []) [0, 1, 5, 6] [(0, (.sl (l69 v1))), (1, (aI v2)), (5, (aI (IntKind.wrap .i64 ((IntKind.wrap .i64 ((IntKind.wrap .i64 ((IntKind.wrap .i64 (v5 + 1)) + ((l57 v11).length : Int))) + v22)) + v30)))), (6, (aI v6))] [] (by kernel_rfl) rfl rfl (by kernel_rfl) ?_ ?_
          · refine SA_plain hT 4 (by kernel_rfl) ?_
            refine SA_tell (v := (.rp [(aI v8), (.str v9), (.str v10), (.sl (l57 v11)), (.sl (l69 v12)), (.sl (l69 v13)), (aI v14)])) (by kernel_rfl) (by kernel_rfl) (by kernel_rfl) (fun L => (jX hT 7 (i69 h7))) ?_
            refine SA_plain hT 6 (by kernel_rfl) ?_
            refine SA_tell (v := (.rp [(aI v15), (.str v16), (.str v17), (.sl (l57 v18)), (.sl (l69 v19)), (.sl (l69 v20)), (aI v21)])) (by kernel_rfl) (by kernel_rfl) (by kernel_rfl) (fun L => (jX hT 7 (i69 h8))) ?_
            refine SA_plain hT 3 (by kernel_rfl) ?_
            refine SA_tell (v := (aI v22)) (by kernel_rfl) (by kernel_rfl) (by kernel_rfl) (fun L => (jP Go.Proofs.Try.func36 (ih_F36 k4 h5 v19 v2 v22 h9))) ?_
            refine SA_plain hT 3 (by kernel_rfl) ?_
            refine SA_tell (v := (.rp [(aI v23), (.str v24), (.str v25), (.sl (l57 v26)), (.sl (l69 v27)), (.sl (l69 v28)), (aI v29)])) (by kernel_rfl) (by kernel_rfl) (by kernel_rfl) (fun L => (jX hT 7 (i69 h10))) ?_
            refine SA_plain hT 3 (by kernel_rfl) ?_
            refine SA_tell (v := (aI v30)) (by kernel_rfl) (by kernel_rfl) (by kernel_rfl) (fun L => (jP Go.Proofs.Try.func36 (ih_F36 k4 h5 v28 v2 v30 h11))) ?_
            refine SA_plain hT 2 (by kernel_rfl) ?_
            exact SA_end (by kernel_rfl)
          refine AE_seqN ?_
          refine zs hT [0, 1, 5, 6, 7] [(0, (.sl (l69 v1))), (1, (aI v2)), (5, (aI (IntKind.wrap .i64 ((IntKind.wrap .i64 ((IntKind.wrap .i64 ((IntKind.wrap .i64 (v5 + 1)) + ((l57 v11).length : Int))) + v22)) + v30)))), (6, (aI v6)), (7, (aI 0))] ?_
          refine AW_block ?_
          refine zKw [0, 1, 5, 6, 7] [(0, (.sl (l69 v1))), (1, (aI v2)), (5, (aI (IntKind.wrap .i64 ((IntKind.wrap .i64 ((IntKind.wrap .i64 ((IntKind.wrap .i64 (v5 + 1)) + ((l57 v11).length : Int))) + v22)) + v30)))), (6, (aI v6)), (7, (aI 0))] ?_
          refine AW_loop (fun n env L => n ≤ k4 ∧ ∃ (v31 : Int) (v32 : Int) (v33 : Int), env = [(0, (.sl (l69 v1))), (1, (aI v2)), (5, (aI v31)), (6, (aI v32)), (7, (aI v33))] ∧ L = [] ∧ F36_l2 n v1 v2 v31 v32 v33 = some (r1)) k4 ⟨Nat.le_refl _, (IntKind.wrap .i64 ((IntKind.wrap .i64 ((IntKind.wrap .i64 ((IntKind.wrap .i64 (v5 + 1)) + ((l57 v11).length : Int))) + v22)) + v30)), v6, 0, rfl, rfl, h⟩ ?_
          rintro n _ _ ⟨hn, v31, v32, v33, rfl, rfl, h⟩
          cases n with
          | zero => rw [F36_l2] at h; cases h
          | succ k12 =>
            have h13 : k12 < (k + 1) := by omega
            rw [F36_l2] at h
            refine AW_seq ?_
            refine AW_join (fun env L => ∃ (v34 : Int) (v35 : Int) (v36 : Int) (v37 : Bool), env = [(0, (.sl (l69 v1))), (1, (aI v2)), (5, (aI v34)), (6, (aI v35)), (7, (aI v36)), (56, (.bool v37))] ∧ L = [] ∧ ∃ n, n ≤ k12 ∧ F36_j3 n v1 v2 v34 v35 v36 v37 = some (r1)) ?_ ?_
            · obtain ⟨⟨v38, v39, v40, v41, v42, v43, v44⟩, h14, h⟩ := bsm h
              try dsimp only at h
              rcases bif_split h with ⟨h15, h⟩ | ⟨h15, h⟩
              · refine AW_reg ?_
                refine zm hT 3 [0, 1, 5, 6, 7, 44, 45, 46] [(0, (.sl (l69 v1))), (1, (aI v2)), (5, (aI v31)), (6, (aI v32)), (7, (aI v33)), (44, (aI v33)), (45, (.sl (l69 v1))), (46, (aI v32))] ?_
                refine zO (jX hT 7 (i69 h14)) ?_
                refine zm hT 4 [0, 1, 5, 6, 7, 51] [(0, (.sl (l69 v1))), (1, (aI v2)), (5, (aI v31)), (6, (aI v32)), (7, (aI v33)), (51, (.bool (decide (v33 < ((l57 v41).length : Int)))))] ?_
                refine zO (jQ hT h15) ?_
                refine ze hT 4 [0, 1, 5, 6, 7, 56] [(0, (.sl (l69 v1))), (1, (aI v2)), (5, (aI v31)), (6, (aI v32)), (7, (aI v33)), (56, (.bool (decide (v31 ≤ v2))))] ?_
                refine zK [0, 1, 5, 6, 7, 56] [(0, (.sl (l69 v1))), (1, (aI v2)), (5, (aI v31)), (6, (aI v32)), (7, (aI v33)), (56, (.bool (decide (v31 ≤ v2))))] ?_
                exact AE_done ⟨v31, v32, v33, (decide (v31 ≤ v2)), rfl, rfl, k12, by omega, h⟩
              · refine AW_reg ?_
                refine zm hT 3 [0, 1, 5, 6, 7, 44, 45, 46] [(0, (.sl (l69 v1))), (1, (aI v2)), (5, (aI v31)), (6, (aI v32)), (7, (aI v33)), (44, (aI v33)), (45, (.sl (l69 v1))), (46, (aI v32))] ?_
                refine zO (jX hT 7 (i69 h14)) ?_
                refine zm hT 4 [0, 1, 5, 6, 7, 51] [(0, (.sl (l69 v1))), (1, (aI v2)), (5, (aI v31)), (6, (aI v32)), (7, (aI v33)), (51, (.bool (decide (v33 < ((l57 v41).length : Int)))))] ?_
                refine zO (jQ hT h15) ?_
                refine ze hT 4 [0, 1, 5, 6, 7, 56] [(0, (.sl (l69 v1))), (1, (aI v2)), (5, (aI v31)), (6, (aI v32)), (7, (aI v33)), (56, (.bool false))] ?_
                refine zK [0, 1, 5, 6, 7, 56] [(0, (.sl (l69 v1))), (1, (aI v2)), (5, (aI v31)), (6, (aI v32)), (7, (aI v33)), (56, (.bool false))] ?_
                exact AE_done ⟨v31, v32, v33, false, rfl, rfl, k12, by omega, h⟩
            · rintro _ _ ⟨v34, v35, v36, v37, rfl, rfl, n, hn, h⟩
              obtain _ | k16 := n
              · rw [F36_j3] at h; cases h
              have h17 : k16 < (k + 1) := by omega
              rw [F36_j3] at h
              rcases bif_split h with ⟨h18, h⟩ | ⟨h18, h⟩
              · refine zT h18 ?_
                refine AE_skip ?_
                refine AE_seqN ?_
                refine AW_seq ?_
                refine AW_block ?_
                obtain ⟨⟨v45, v46, v47, v48, v49, v50, v51⟩, h19, h⟩ := bsm h
                try dsimp only at h
                obtain ⟨⟨v52, v53, v54, v55, v56, v57⟩, h20, h⟩ := bsm h
                try dsimp only at h
                obtain ⟨v58, h21, h⟩ := bsm h
                try dsimp only at h
                refine AW_reg ?_
                refine zm hT 3 [0, 1, 5, 6, 7, 59, 60, 61] [(0, (.sl (l69 v1))), (1, (aI v2)), (5, (aI v34)), (6, (aI v35)), (7, (aI v36)), (59, (aI v34)), (60, (.sl (l69 v1))), (61, (aI v35))] ?_
                refine zO (jX hT 7 (i69 h19)) ?_
                refine zm hT 3 [0, 1, 5, 6, 7, 59, 64, 65] [(0, (.sl (l69 v1))), (1, (aI v2)), (5, (aI v34)), (6, (aI v35)), (7, (aI v36)), (59, (aI v34)), (64, (.sl (l57 v48))), (65, (aI v36))] ?_
                refine zO (jX hT 6 (i57 h20)) ?_
                refine zm hT 2 [0, 1, 5, 6, 7, 59, 67, 68] [(0, (.sl (l69 v1))), (1, (aI v2)), (5, (aI v34)), (6, (aI v35)), (7, (aI v36)), (59, (aI v34)), (67, (.agg [(aI v52), (.str v53), (aI v54), (.str v55), (.sl (l57 v56)), (aI v57)])), (68, (aI v2))] ?_
                refine zO (jP Go.Proofs.Try.func71 (F71_ok k16 v52 v53 v54 v55 v56 v57 v2 v58 h21)) ?_
                refine ze hT 2 [0, 1, 5, 6, 7] [(0, (.sl (l69 v1))), (1, (aI v2)), (5, (aI (IntKind.wrap .i64 (v34 + v58)))), (6, (aI v35)), (7, (aI v36))] ?_
                refine AE_blkN ?_
                refine AE_seqN ?_
                refine zr hT [0, 1, 5, 6, 7] [(0, (.sl (l69 v1))), (1, (aI v2)), (5, (aI (IntKind.wrap .i64 (v34 + v58)))), (6, (aI v35)), (7, (aI (IntKind.wrap .i64 (v36 + 1))))] ?_
                refine zK [0, 1, 5, 6, 7] [(0, (.sl (l69 v1))), (1, (aI v2)), (5, (aI (IntKind.wrap .i64 (v34 + v58)))), (6, (aI v35)), (7, (aI (IntKind.wrap .i64 (v36 + 1))))] ?_
                exact AE_done ⟨k16, by omega, by omega, (IntKind.wrap .i64 (v34 + v58)), v35, (IntKind.wrap .i64 (v36 + 1)), rfl, rfl, h⟩
              · refine zN h18 ?_
                refine AE_exit ?_
                refine AE_seqX ?_
                refine AE_seqX ?_
                refine AE_blkH ?_
                refine AE_blkN ?_
                refine AE_seqN ?_
                refine zr hT [0, 1, 5, 6] [(0, (.sl (l69 v1))), (1, (aI v2)), (5, (aI v34)), (6, (aI (IntKind.wrap .i64 (v35 + 1))))] ?_
                refine zK [0, 1, 5, 6] [(0, (.sl (l69 v1))), (1, (aI v2)), (5, (aI v34)), (6, (aI (IntKind.wrap .i64 (v35 + 1))))] ?_
                exact AE_done ⟨k16, by omega, by omega, v34, (IntKind.wrap .i64 (v35 + 1)), rfl, rfl, h⟩
        · refine zN h6 ?_
          refine AE_exit ?_
          refine AE_seqX ?_
          refine AE_seqX ?_
          refine AE_blkH ?_
          refine AE_seqN ?_
          refine zs hT [4] [(4, (aI v5))] ?_
          refine AE_ret ?_
          refine zK [4] [(4, (aI v5))] ?_
          simp only [Option.some.injEq] at h
          subst h
          exact zEnd

theorem F36_all (K0 : Nat) : (∀ (v1 : (List T69)) (v2 : Int) (r1 : Int), F36 K0 v1 v2 = some (r1) → Fn prog 36 [(.sl (l69 v1)), (aI v2)] [] (aI r1) []) := by
  induction K0 using Nat.strongRecOn with
  | ind K0 ih => exact F36_step K0 (fun k hk => (ih k hk))

theorem F36_ok (K0 : Nat) : ∀ (v1 : (List T69)) (v2 : Int) (r1 : Int), F36 K0 v1 v2 = some (r1) → Fn prog 36 [(.sl (l69 v1)), (aI v2)] [] (aI r1) [] := (F36_all K0)

mutual
def F10_j1 : Nat → (List T34) → Int → Int → Bool → Option (Bool)
  | 0, _, _, _, _ => none
  | k4 + 1, v3, v6, v7, v8 =>
    (bif v8 then
      ((idx v3 v7).bind fun ⟨v9, v10, v11⟩ =>
        ((F36 k4 v10 800).bind fun v12 =>
          F10_l0 k4 v3 (IntKind.wrap .i64 (v6 + v12)) (IntKind.wrap .i64 (v7 + 1))))
    else
      (bif (decide (v6 ≤ 800)) then
        some ((decide (((l34 v3).length : Int) ≤ 20)))
      else
        some (false)))
def F10_l0 : Nat → (List T34) → Int → Int → Option (Bool)
  | 0, _, _, _ => none
  | k1 + 1, v3, v4, v5 =>
    (bif (decide (v5 < ((l34 v3).length : Int))) then
      F10_j1 k1 v3 v4 v5 (decide (v5 < 20))
    else
      F10_j1 k1 v3 v4 v5 false)
end

def F10 (k : Nat) (v1 : Int) (v2 : (List T76)) (v3 : (List T34)) : Option (Bool) :=
  F10_l0 k v3 ((l76 v2).length : Int) 0

theorem F10_ok (k : Nat) : ∀ (v1 : Int) (v2 : (List T76)) (v3 : (List T34)) (r1 : Bool), F10 k v1 v2 v3 = some (r1) → Fn prog 10 [(.agg [(aI v1), (.sl (l76 v2)), (.sl (l34 v3))])] [] (.bool r1) [] := by
  intro v1 v2 v3 r1 h
  rw [F10] at h
  refine Fn_bodyK hT Go.Proofs.Try.func10 (c := Go.Proofs.Try.f10.body.getD .skip) (by kernel_rfl) (by kernel_rfl) (by kernel_rfl) ?_
  refine zS hT [1] [(1, (.ptr 0 0))] [.cells [(aI v1), (.sl (l76 v2)), (.sl (l34 v3))]] ?_
  refine zs hT [1, 3] [(1, (.ptr 0 0)), (3, (aI ((l76 v2).length : Int)))] ?_
  refine AW_seq ?_
  refine zs hT [1, 3, 4] [(1, (.ptr 0 0)), (3, (aI ((l76 v2).length : Int))), (4, (aI 0))] ?_
  refine AW_block ?_
  refine zKw [1, 3, 4] [(1, (.ptr 0 0)), (3, (aI ((l76 v2).length : Int))), (4, (aI 0))] ?_
  refine AW_loop (fun n env L => n ≤ k ∧ ∃ (v4 : Int) (v5 : Int), env = [(1, (.ptr 0 0)), (3, (aI v4)), (4, (aI v5))] ∧ L = [.cells [(aI v1), (.sl (l76 v2)), (.sl (l34 v3))]] ∧ F10_l0 n v3 v4 v5 = some (r1)) k ⟨Nat.le_refl _, ((l76 v2).length : Int), 0, rfl, rfl, h⟩ ?_
  rintro n _ _ ⟨hn, v4, v5, rfl, rfl, h⟩
  cases n with
  | zero => rw [F10_l0] at h; cases h
  | succ k1 =>
    rw [F10_l0] at h
    refine AW_seq ?_
    refine AW_join (fun env L => ∃ (v6 : Int) (v7 : Int) (v8 : Bool), env = [(1, (.ptr 0 0)), (3, (aI v6)), (4, (aI v7)), (16, (.bool v8))] ∧ L = [.cells [(aI v1), (.sl (l76 v2)), (.sl (l34 v3))]] ∧ ∃ n, n ≤ k1 ∧ F10_j1 n v3 v6 v7 v8 = some (r1)) ?_ ?_
    · rcases bif_split h with ⟨h3, h⟩ | ⟨h3, h⟩
      · refine AW_reg ?_
        refine zm hT 5 [1, 3, 4, 12] [(1, (.ptr 0 0)), (3, (aI v4)), (4, (aI v5)), (12, (.bool (decide (v5 < ((l34 v3).length : Int)))))] ?_
        refine zO (jQ hT h3) ?_
        refine ze hT 3 [1, 3, 4, 16] [(1, (.ptr 0 0)), (3, (aI v4)), (4, (aI v5)), (16, (.bool (decide (v5 < 20))))] ?_
        refine zK [1, 3, 4, 16] [(1, (.ptr 0 0)), (3, (aI v4)), (4, (aI v5)), (16, (.bool (decide (v5 < 20))))] ?_
        exact AE_done ⟨v4, v5, (decide (v5 < 20)), rfl, rfl, k1, by omega, h⟩
      · refine AW_reg ?_
        refine zm hT 5 [1, 3, 4, 12] [(1, (.ptr 0 0)), (3, (aI v4)), (4, (aI v5)), (12, (.bool (decide (v5 < ((l34 v3).length : Int)))))] ?_
        refine zO (jQ hT h3) ?_
        refine ze hT 3 [1, 3, 4, 16] [(1, (.ptr 0 0)), (3, (aI v4)), (4, (aI v5)), (16, (.bool false))] ?_
        refine zK [1, 3, 4, 16] [(1, (.ptr 0 0)), (3, (aI v4)), (4, (aI v5)), (16, (.bool false))] ?_
        exact AE_done ⟨v4, v5, false, rfl, rfl, k1, by omega, h⟩
    · rintro _ _ ⟨v6, v7, v8, rfl, rfl, n, hn, h⟩
      obtain _ | k4 := n
      · rw [F10_j1] at h; cases h
      rw [F10_j1] at h
      rcases bif_split h with ⟨h6, h⟩ | ⟨h6, h⟩
      · refine zT h6 ?_
        refine AE_skip ?_
        refine AE_seqN ?_
        refine AW_seq ?_
        refine AW_block ?_
        obtain ⟨⟨v9, v10, v11⟩, h7, h⟩ := bsm h
        try dsimp only at h
        obtain ⟨v12, h8, h⟩ := bsm h
        try dsimp only at h
        refine AW_reg ?_
        refine zm hT 4 [1, 3, 4, 19, 21, 22] [(1, (.ptr 0 0)), (3, (aI v6)), (4, (aI v7)), (19, (aI v6)), (21, (.sl (l34 v3))), (22, (aI v7))] ?_
        refine zO (jX hT 3 (i34 h7)) ?_
        refine zm hT 2 [1, 3, 4, 19, 25] [(1, (.ptr 0 0)), (3, (aI v6)), (4, (aI v7)), (19, (aI v6)), (25, (.sl (l69 v10)))] ?_
        refine zO (jP Go.Proofs.Try.func36 (F36_ok k4 v10 800 v12 h8)) ?_
        refine ze hT 2 [1, 3, 4] [(1, (.ptr 0 0)), (3, (aI (IntKind.wrap .i64 (v6 + v12)))), (4, (aI v7))] ?_
        refine AE_blkN ?_
        refine AE_seqN ?_
        refine zr hT [1, 3, 4] [(1, (.ptr 0 0)), (3, (aI (IntKind.wrap .i64 (v6 + v12)))), (4, (aI (IntKind.wrap .i64 (v7 + 1))))] ?_
        refine zK [1, 3, 4] [(1, (.ptr 0 0)), (3, (aI (IntKind.wrap .i64 (v6 + v12)))), (4, (aI (IntKind.wrap .i64 (v7 + 1))))] ?_
        exact AE_done ⟨k4, by omega, by omega, (IntKind.wrap .i64 (v6 + v12)), (IntKind.wrap .i64 (v7 + 1)), rfl, rfl, h⟩
      · refine zN h6 ?_
        refine AE_exit ?_
        refine AE_seqX ?_
        refine AE_seqX ?_
        refine AE_blkH ?_
        refine AE_seqN ?_
        refine AW_seq ?_
        rcases bif_split h with ⟨h9, h⟩ | ⟨h9, h⟩
        · refine AW_reg ?_
          refine zm hT 2 [1, 29] [(1, (.ptr 0 0)), (29, (.bool (decide (v6 ≤ 800))))] ?_
          refine zO (jQ hT h9) ?_
          refine ze hT 6 [2] [(2, (.bool (decide (((l34 v3).length : Int) ≤ 20))))] ?_
          refine AE_seqN ?_
          refine AE_ret ?_
          refine zK [2] [(2, (.bool (decide (((l34 v3).length : Int) ≤ 20))))] ?_
          simp only [Option.some.injEq] at h
          subst h
          exact zEnd
        · refine AW_reg ?_
          refine zm hT 2 [1, 29] [(1, (.ptr 0 0)), (29, (.bool (decide (v6 ≤ 800))))] ?_
          refine zO (jQ hT h9) ?_
          refine ze hT 6 [2] [(2, (.bool false))] ?_
          refine AE_seqN ?_
          refine AE_ret ?_
          refine zK [2] [(2, (.bool false))] ?_
          simp only [Option.some.injEq] at h
          subst h
          exact zEnd

def F116 (k : Nat) (v1 : Int) : Option (Bool) :=
  (bif (decide (v1 ≥ 97)) then
    some ((decide (v1 ≤ 122)))
  else
    some (false))

theorem F116_ok (k : Nat) : ∀ (v1 : Int) (r1 : Bool), F116 k v1 = some (r1) → Fn prog 116 [(.int .u8 v1)] [] (.bool r1) [] := by
  intro v1 r1 h
  rw [F116] at h
  refine Fn_bodyK hT Go.Proofs.Try.func116 (c := Go.Proofs.Try.f116.body.getD .skip) (by kernel_rfl) (by kernel_rfl) (by kernel_rfl) ?_
  refine zs hT [0] [(0, (.int .u8 v1))] ?_
  refine AW_seq ?_
  rcases bif_split h with ⟨h1, h⟩ | ⟨h1, h⟩
  · refine AW_reg ?_
    refine zm hT 2 [0, 4] [(0, (.int .u8 v1)), (4, (.bool (decide (v1 ≥ 97))))] ?_
    refine zO (jQ hT h1) ?_
    refine ze hT 4 [2] [(2, (.bool (decide (v1 ≤ 122))))] ?_
    refine AE_seqN ?_
    refine AE_ret ?_
    refine zK [2] [(2, (.bool (decide (v1 ≤ 122))))] ?_
    simp only [Option.some.injEq] at h
    subst h
    exact zEnd
  · refine AW_reg ?_
    refine zm hT 2 [0, 4] [(0, (.int .u8 v1)), (4, (.bool (decide (v1 ≥ 97))))] ?_
    refine zO (jQ hT h1) ?_
    refine ze hT 4 [2] [(2, (.bool false))] ?_
    refine AE_seqN ?_
    refine AE_ret ?_
    refine zK [2] [(2, (.bool false))] ?_
    simp only [Option.some.injEq] at h
    subst h
    exact zEnd

def F128 (k : Nat) (v1 : Int) : Option (Bool) :=
  (bif (decide (v1 ≥ 48)) then
    some ((decide (v1 ≤ 57)))
  else
    some (false))

theorem F128_ok (k : Nat) : ∀ (v1 : Int) (r1 : Bool), F128 k v1 = some (r1) → Fn prog 128 [(.int .u8 v1)] [] (.bool r1) [] := by
  intro v1 r1 h
  rw [F128] at h
  refine Fn_bodyK hT Go.Proofs.Try.func128 (c := Go.Proofs.Try.f128.body.getD .skip) (by kernel_rfl) (by kernel_rfl) (by kernel_rfl) ?_
  refine zs hT [0] [(0, (.int .u8 v1))] ?_
  refine AW_seq ?_
  rcases bif_split h with ⟨h1, h⟩ | ⟨h1, h⟩
  · refine AW_reg ?_
    refine zm hT 2 [0, 4] [(0, (.int .u8 v1)), (4, (.bool (decide (v1 ≥ 48))))] ?_
    refine zO (jQ hT h1) ?_
    refine ze hT 4 [2] [(2, (.bool (decide (v1 ≤ 57))))] ?_
    refine AE_seqN ?_
    refine AE_ret ?_
    refine zK [2] [(2, (.bool (decide (v1 ≤ 57))))] ?_
    simp only [Option.some.injEq] at h
    subst h
    exact zEnd
  · refine AW_reg ?_
    refine zm hT 2 [0, 4] [(0, (.int .u8 v1)), (4, (.bool (decide (v1 ≥ 48))))] ?_
    refine zO (jQ hT h1) ?_
    refine ze hT 4 [2] [(2, (.bool false))] ?_
    refine AE_seqN ?_
    refine AE_ret ?_
    refine zK [2] [(2, (.bool false))] ?_
    simp only [Option.some.injEq] at h
    subst h
    exact zEnd

mutual
def F117_j1 : Nat → (List Int) → Int → Bool → Option (Int)
  | 0, _, _, _ => none
  | k9 + 1, v1, v4, v5 =>
    (bif v5 then
      F117_l0 k9 v1 (IntKind.wrap .i64 (v4 + 1))
    else
      some (v4))
def F117_l0 : Nat → (List Int) → Int → Option (Int)
  | 0, _, _ => none
  | k1 + 1, v1, v3 =>
    (bif (decide (v3 < ((l5 v1).length : Int))) then
      ((idx v1 v3).bind fun v6 =>
        ((F116 k1 v6).bind fun v7 =>
          (bif v7 then
            F117_j1 k1 v1 v3 true
          else
            ((idx v1 v3).bind fun v8 =>
              ((F128 k1 v8).bind fun v9 =>
                F117_j1 k1 v1 v3 v9)))))
    else
      F117_j1 k1 v1 v3 false)
end

def F117 (k : Nat) (v1 : (List Int)) (v2 : Int) : Option (Int) :=
  F117_l0 k v1 v2

theorem F117_ok (k : Nat) : ∀ (v1 : (List Int)) (v2 : Int) (r1 : Int), F117 k v1 v2 = some (r1) → Fn prog 117 [(.sl (l5 v1)), (aI v2)] [] (aI r1) [] := by
  intro v1 v2 r1 h
  rw [F117] at h
  refine Fn_bodyK hT Go.Proofs.Try.func117 (c := Go.Proofs.Try.f117.body.getD .skip) (by kernel_rfl) (by kernel_rfl) (by kernel_rfl) ?_
  refine zs hT [0, 1] [(0, (.sl (l5 v1))), (1, (aI v2))] ?_
  refine AW_seq ?_
  refine AW_block ?_
  refine zKw [0, 1] [(0, (.sl (l5 v1))), (1, (aI v2))] ?_
  refine AW_loop (fun n env L => n ≤ k ∧ ∃ (v3 : Int), env = [(0, (.sl (l5 v1))), (1, (aI v3))] ∧ L = [] ∧ F117_l0 n v1 v3 = some (r1)) k ⟨Nat.le_refl _, v2, rfl, rfl, h⟩ ?_
  rintro n _ _ ⟨hn, v3, rfl, rfl, h⟩
  cases n with
  | zero => rw [F117_l0] at h; cases h
  | succ k1 =>
    rw [F117_l0] at h
    refine AW_seq ?_
    refine AW_join (fun env L => ∃ (v4 : Int) (v5 : Bool), env = [(0, (.sl (l5 v1))), (1, (aI v4)), (22, (.bool v5))] ∧ L = [] ∧ ∃ n, n ≤ k1 ∧ F117_j1 n v1 v4 v5 = some (r1)) ?_ ?_
    · rcases bif_split h with ⟨h3, h⟩ | ⟨h3, h⟩
      · obtain ⟨v6, h4, h⟩ := bsm h
        try dsimp only at h
        obtain ⟨v7, h5, h⟩ := bsm h
        try dsimp only at h
        rcases bif_split h with ⟨h6, h⟩ | ⟨h6, h⟩
        · refine AW_reg ?_
          refine zm hT 4 [0, 1, 8] [(0, (.sl (l5 v1))), (1, (aI v3)), (8, (.bool (decide (v3 < ((l5 v1).length : Int)))))] ?_
          refine zO (jQ hT h3) ?_
          refine zm hT 2 [0, 1, 9, 10, 11] [(0, (.sl (l5 v1))), (1, (aI v3)), (9, (.bool true)), (10, (.sl (l5 v1))), (11, (aI v3))] ?_
          refine zO (jX hT 1 (i5 h4)) ?_
          refine zm hT 1 [0, 1, 9, 13] [(0, (.sl (l5 v1))), (1, (aI v3)), (9, (.bool true)), (13, (.int .u8 v6))] ?_
          refine zO (jP Go.Proofs.Try.func116 (F116_ok k1 v6 v7 h5)) ?_
          refine zO (jQ hT h6) ?_
          refine ze hT 7 [0, 1, 22] [(0, (.sl (l5 v1))), (1, (aI v3)), (22, (.bool true))] ?_
          refine zK [0, 1, 22] [(0, (.sl (l5 v1))), (1, (aI v3)), (22, (.bool true))] ?_
          exact AE_done ⟨v3, true, rfl, rfl, k1, by omega, h⟩
        · obtain ⟨v8, h7, h⟩ := bsm h
          try dsimp only at h
          obtain ⟨v9, h8, h⟩ := bsm h
          try dsimp only at h
          refine AW_reg ?_
          refine zm hT 4 [0, 1, 8] [(0, (.sl (l5 v1))), (1, (aI v3)), (8, (.bool (decide (v3 < ((l5 v1).length : Int)))))] ?_
          refine zO (jQ hT h3) ?_
          refine zm hT 2 [0, 1, 9, 10, 11] [(0, (.sl (l5 v1))), (1, (aI v3)), (9, (.bool true)), (10, (.sl (l5 v1))), (11, (aI v3))] ?_
          refine zO (jX hT 1 (i5 h4)) ?_
          refine zm hT 1 [0, 1, 9, 13] [(0, (.sl (l5 v1))), (1, (aI v3)), (9, (.bool true)), (13, (.int .u8 v6))] ?_
          refine zO (jP Go.Proofs.Try.func116 (F116_ok k1 v6 v7 h5)) ?_
          refine zO (jQ hT h6) ?_
          refine zm hT 2 [0, 1, 9, 15, 16, 17] [(0, (.sl (l5 v1))), (1, (aI v3)), (9, (.bool true)), (15, (.bool false)), (16, (.sl (l5 v1))), (17, (aI v3))] ?_
          refine zO (jX hT 1 (i5 h7)) ?_
          refine zm hT 1 [0, 1, 9, 15, 19] [(0, (.sl (l5 v1))), (1, (aI v3)), (9, (.bool true)), (15, (.bool false)), (19, (.int .u8 v8))] ?_
          refine zO (jP Go.Proofs.Try.func128 (F128_ok k1 v8 v9 h8)) ?_
          refine ze hT 2 [0, 1, 22] [(0, (.sl (l5 v1))), (1, (aI v3)), (22, (.bool v9))] ?_
          refine zK [0, 1, 22] [(0, (.sl (l5 v1))), (1, (aI v3)), (22, (.bool v9))] ?_
          exact AE_done ⟨v3, v9, rfl, rfl, k1, by omega, h⟩
      · refine AW_reg ?_
        refine zm hT 4 [0, 1, 8] [(0, (.sl (l5 v1))), (1, (aI v3)), (8, (.bool (decide (v3 < ((l5 v1).length : Int)))))] ?_
        refine zO (jQ hT h3) ?_
        refine ze hT 13 [0, 1, 22] [(0, (.sl (l5 v1))), (1, (aI v3)), (22, (.bool false))] ?_
        refine zK [0, 1, 22] [(0, (.sl (l5 v1))), (1, (aI v3)), (22, (.bool false))] ?_
        exact AE_done ⟨v3, false, rfl, rfl, k1, by omega, h⟩
    · rintro _ _ ⟨v4, v5, rfl, rfl, n, hn, h⟩
      obtain _ | k9 := n
      · rw [F117_j1] at h; cases h
      rw [F117_j1] at h
      rcases bif_split h with ⟨h11, h⟩ | ⟨h11, h⟩
      · refine zT h11 ?_
        refine AE_skip ?_
        refine AE_seqN ?_
        refine AW_block ?_
        refine zr hT [0, 1] [(0, (.sl (l5 v1))), (1, (aI (IntKind.wrap .i64 (v4 + 1))))] ?_
        refine AE_blkN ?_
        refine zK [0, 1] [(0, (.sl (l5 v1))), (1, (aI (IntKind.wrap .i64 (v4 + 1))))] ?_
        exact AE_done ⟨k9, by omega, by omega, (IntKind.wrap .i64 (v4 + 1)), rfl, rfl, h⟩
      · refine zN h11 ?_
        refine AE_exit ?_
        refine AE_seqX ?_
        refine AE_seqX ?_
        refine AE_blkH ?_
        refine AE_seqN ?_
        refine zs hT [4] [(4, (aI v4))] ?_
        refine AE_ret ?_
        refine zK [4] [(4, (aI v4))] ?_
        simp only [Option.some.injEq] at h
        subst h
        exact zEnd

def F146 (k : Nat) (v1 : ByteArray) (v2 : Int) : Option Int := some (Go.Lib.indexByte v1.data.toList v2.toNat.toUInt8)
theorem F146_ok (k : Nat) : ∀ (v1 : ByteArray) (v2 : Int) (r1 : Int), F146 k v1 v2 = some (r1) → Fn prog 146 [(.str v1), (.int .u8 v2)] [] (.int .i64 r1) [] := by
  intro v1 v2 r1 h
  rw [F146] at h
  simp only [Option.some.injEq] at h
  subst h
  exact Fn_lib (us := [.string v1, .int .u8 v2]) rfl rfl fun S _ => Go.Proofs.Try.strings_IndexByte v1 v2 S.w

def F147 (k : Nat) (v1 v2 : ByteArray) : Option Bool := if v1.size < 4294967281 then some (Go.Lib.contains v1.data.toList v2.data.toList) else none
theorem F147_ok (k : Nat) : ∀ (v1 v2 : ByteArray) (r1 : Bool), F147 k v1 v2 = some (r1) → Fn prog 147 [(.str v1), (.str v2)] [] (.bool r1) [] := by
  intro v1 v2 r1 h
  rw [F147] at h
  split at h
  · simp only [Option.some.injEq] at h
    subst h
    exact Fn_lib (us := [.string v1, .string v2]) rfl rfl fun S hI => by
      obtain ⟨m, hm⟩ := hI.gl.1
      exact Go.Proofs.Try.strings_Contains v1 v2 m S.w (by assumption) hm
  · cases h

def F118 (k : Nat) (v1 : ByteArray) : Option (Bool) :=
  (bif (!(v1.toList == (ByteArray.mk #[]).toList)) then
    ((F146 k v1 32).bind fun v2 =>
      (bif (decide (v2 < 0)) then
        ((catS (ByteArray.mk #[32]) v1).bind fun v3 =>
          ((catS v3 (ByteArray.mk #[32])).bind fun v4 =>
            ((F147 k str1 v4).bind fun v5 =>
              some (v5))))
      else
        some (false)))
  else
    some (false))

theorem F118_ok (k : Nat) : ∀ (v1 : ByteArray) (r1 : Bool), F118 k v1 = some (r1) → Fn prog 118 [(.str v1)] [] (.bool r1) [] := by
  intro v1 r1 h
  rw [F118] at h
  refine Fn_bodyK hT Go.Proofs.Try.func118 (c := Go.Proofs.Try.f118.body.getD .skip) (by kernel_rfl) (by kernel_rfl) (by kernel_rfl) ?_
  refine zs hT [0] [(0, (.str v1))] ?_
  refine AW_seq ?_
  rcases bif_split h with ⟨h1, h⟩ | ⟨h1, h⟩
  · obtain ⟨v2, h2, h⟩ := bsm h
    try dsimp only at h
    rcases bif_split h with ⟨h3, h⟩ | ⟨h3, h⟩
    · obtain ⟨v3, h4, h⟩ := bsm h
      try dsimp only at h
      obtain ⟨v4, h5, h⟩ := bsm h
      try dsimp only at h
      obtain ⟨v5, h6, h⟩ := bsm h
      try dsimp only at h
      refine AW_reg ?_
      refine zm hT 2 [0, 4] [(0, (.str v1)), (4, (.bool (!(v1.toList == (ByteArray.mk #[]).toList))))] ?_
      refine zO (jQ hT h1) ?_
      refine zm hT 1 [0, 5, 6] [(0, (.str v1)), (5, (.bool true)), (6, (.str v1))] ?_
      refine zO (jP Go.Proofs.Try.func146 (F146_ok k v1 32 v2 h2)) ?_
      refine zm hT 2 [0, 9] [(0, (.str v1)), (9, (.bool (decide (v2 < 0))))] ?_
      refine zO (jQ hT h3) ?_
      refine zm hT 1 [10, 11] [(10, (.bool true)), (11, (.str v1))] ?_
      refine zO (OpJ_catK (a := (ByteArray.mk #[32])) (b := v1) (by kernel_rfl) h4) ?_
      refine zO (OpJ_catK (a := v3) (b := (ByteArray.mk #[32])) (by kernel_rfl) h5) ?_
      refine zO (jP Go.Proofs.Try.func147 (F147_ok k str1 v4 v5 h6)) ?_
      refine ze hT 2 [2] [(2, (.bool v5))] ?_
      refine AE_seqN ?_
      refine AE_ret ?_
      refine zK [2] [(2, (.bool v5))] ?_
      simp only [Option.some.injEq] at h
      subst h
      exact zEnd
    · refine AW_reg ?_
      refine zm hT 2 [0, 4] [(0, (.str v1)), (4, (.bool (!(v1.toList == (ByteArray.mk #[]).toList))))] ?_
      refine zO (jQ hT h1) ?_
      refine zm hT 1 [0, 5, 6] [(0, (.str v1)), (5, (.bool true)), (6, (.str v1))] ?_
      refine zO (jP Go.Proofs.Try.func146 (F146_ok k v1 32 v2 h2)) ?_
      refine zm hT 2 [0, 9] [(0, (.str v1)), (9, (.bool (decide (v2 < 0))))] ?_
      refine zO (jQ hT h3) ?_
      refine ze hT 6 [2] [(2, (.bool false))] ?_
      refine AE_seqN ?_
      refine AE_ret ?_
      refine zK [2] [(2, (.bool false))] ?_
      simp only [Option.some.injEq] at h
      subst h
      exact zEnd
  · refine AW_reg ?_
    refine zm hT 2 [0, 4] [(0, (.str v1)), (4, (.bool (!(v1.toList == (ByteArray.mk #[]).toList))))] ?_
    refine zO (jQ hT h1) ?_
    refine ze hT 11 [2] [(2, (.bool false))] ?_
    refine AE_seqN ?_
    refine AE_ret ?_
    refine zK [2] [(2, (.bool false))] ?_
    simp only [Option.some.injEq] at h
    subst h
    exact zEnd

def F75 (k : Nat) (v1 : ByteArray) : Option (Bool) :=
  (bif (!(v1.toList == (ByteArray.mk #[]).toList)) then
    (bif (decide ((v1.size : Int) ≤ 12)) then
      ((bidx v1 0).bind fun v2 =>
        ((F116 k v2).bind fun v3 =>
          (bif v3 then
            ((bytesP v1).bind fun v4 =>
              ((F117 k v4 0).bind fun v5 =>
                (bif (v5 == (v1.size : Int)) then
                  ((F118 k v1).bind fun v6 =>
                    some ((!v6)))
                else
                  some (false))))
          else
            some (false))))
    else
      some (false))
  else
    some (false))

theorem F75_ok (k : Nat) : ∀ (v1 : ByteArray) (r1 : Bool), F75 k v1 = some (r1) → Fn prog 75 [(.str v1)] [] (.bool r1) [] := by
  intro v1 r1 h
  rw [F75] at h
  refine Fn_bodyK hT Go.Proofs.Try.func75 (c := Go.Proofs.Try.f75.body.getD .skip) (by kernel_rfl) (by kernel_rfl) (by kernel_rfl) ?_
  refine zs hT [0] [(0, (.str v1))] ?_
  refine AW_seq ?_
  rcases bif_split h with ⟨h1, h⟩ | ⟨h1, h⟩
  · rcases bif_split h with ⟨h2, h⟩ | ⟨h2, h⟩
    · obtain ⟨v2, h3, h⟩ := bsm h
      try dsimp only at h
      obtain ⟨v3, h4, h⟩ := bsm h
      try dsimp only at h
      rcases bif_split h with ⟨h5, h⟩ | ⟨h5, h⟩
      · obtain ⟨v4, h6, h⟩ := bsm h
        try dsimp only at h
        obtain ⟨v5, h7, h⟩ := bsm h
        try dsimp only at h
        rcases bif_split h with ⟨h8, h⟩ | ⟨h8, h⟩
        · obtain ⟨v6, h9, h⟩ := bsm h
          try dsimp only at h
          refine AW_reg ?_
          refine zm hT 2 [0, 4] [(0, (.str v1)), (4, (.bool (!(v1.toList == (ByteArray.mk #[]).toList))))] ?_
          refine zO (jQ hT h1) ?_
          refine zm hT 4 [0, 9] [(0, (.str v1)), (9, (.bool (decide ((v1.size : Int) ≤ 12))))] ?_
          refine zO (jQ hT h2) ?_
          refine zm hT 1 [0, 10, 11] [(0, (.str v1)), (10, (.bool true)), (11, (.str v1))] ?_
          refine zO (jB hT h3) ?_
          refine zO (jP Go.Proofs.Try.func116 (F116_ok k v2 v3 h4)) ?_
          refine zm hT 1 [0, 14] [(0, (.str v1)), (14, (.bool v3))] ?_
          refine zO (jQ hT h5) ?_
          refine zm hT 1 [0, 15, 16] [(0, (.str v1)), (15, (.bool true)), (16, (.str v1))] ?_
          refine zO (OpJ_bytesE hT (s := v1) (lf := l5) (ef := e5) (by kernel_rfl) h6 l5_map (fun _ => rfl)) ?_
          refine zO (jP Go.Proofs.Try.func117 (F117_ok k v4 0 v5 h7)) ?_
          refine zm hT 4 [0, 22] [(0, (.str v1)), (22, (.bool (v5 == (v1.size : Int))))] ?_
          refine zO (jQ hT h8) ?_
          refine zm hT 1 [23, 24] [(23, (.bool true)), (24, (.str v1))] ?_
          refine zO (jP Go.Proofs.Try.func118 (F118_ok k v1 v6 h9)) ?_
          refine ze hT 3 [2] [(2, (.bool (!v6)))] ?_
          refine AE_seqN ?_
          refine AE_ret ?_
          refine zK [2] [(2, (.bool (!v6)))] ?_
          simp only [Option.some.injEq] at h
          subst h
          exact zEnd
        · refine AW_reg ?_
          refine zm hT 2 [0, 4] [(0, (.str v1)), (4, (.bool (!(v1.toList == (ByteArray.mk #[]).toList))))] ?_
          refine zO (jQ hT h1) ?_
          refine zm hT 4 [0, 9] [(0, (.str v1)), (9, (.bool (decide ((v1.size : Int) ≤ 12))))] ?_
          refine zO (jQ hT h2) ?_
          refine zm hT 1 [0, 10, 11] [(0, (.str v1)), (10, (.bool true)), (11, (.str v1))] ?_
          refine zO (jB hT h3) ?_
          refine zO (jP Go.Proofs.Try.func116 (F116_ok k v2 v3 h4)) ?_
          refine zm hT 1 [0, 14] [(0, (.str v1)), (14, (.bool v3))] ?_
          refine zO (jQ hT h5) ?_
          refine zm hT 1 [0, 15, 16] [(0, (.str v1)), (15, (.bool true)), (16, (.str v1))] ?_
          refine zO (OpJ_bytesE hT (s := v1) (lf := l5) (ef := e5) (by kernel_rfl) h6 l5_map (fun _ => rfl)) ?_
          refine zO (jP Go.Proofs.Try.func117 (F117_ok k v4 0 v5 h7)) ?_
          refine zm hT 4 [0, 22] [(0, (.str v1)), (22, (.bool (v5 == (v1.size : Int))))] ?_
          refine zO (jQ hT h8) ?_
          refine ze hT 5 [2] [(2, (.bool false))] ?_
          refine AE_seqN ?_
          refine AE_ret ?_
          refine zK [2] [(2, (.bool false))] ?_
          simp only [Option.some.injEq] at h
          subst h
          exact zEnd
      · refine AW_reg ?_
        refine zm hT 2 [0, 4] [(0, (.str v1)), (4, (.bool (!(v1.toList == (ByteArray.mk #[]).toList))))] ?_
        refine zO (jQ hT h1) ?_
        refine zm hT 4 [0, 9] [(0, (.str v1)), (9, (.bool (decide ((v1.size : Int) ≤ 12))))] ?_
        refine zO (jQ hT h2) ?_
        refine zm hT 1 [0, 10, 11] [(0, (.str v1)), (10, (.bool true)), (11, (.str v1))] ?_
        refine zO (jB hT h3) ?_
        refine zO (jP Go.Proofs.Try.func116 (F116_ok k v2 v3 h4)) ?_
        refine zm hT 1 [0, 14] [(0, (.str v1)), (14, (.bool v3))] ?_
        refine zO (jQ hT h5) ?_
        refine ze hT 13 [2] [(2, (.bool false))] ?_
        refine AE_seqN ?_
        refine AE_ret ?_
        refine zK [2] [(2, (.bool false))] ?_
        simp only [Option.some.injEq] at h
        subst h
        exact zEnd
    · refine AW_reg ?_
      refine zm hT 2 [0, 4] [(0, (.str v1)), (4, (.bool (!(v1.toList == (ByteArray.mk #[]).toList))))] ?_
      refine zO (jQ hT h1) ?_
      refine zm hT 4 [0, 9] [(0, (.str v1)), (9, (.bool (decide ((v1.size : Int) ≤ 12))))] ?_
      refine zO (jQ hT h2) ?_
      refine ze hT 18 [2] [(2, (.bool false))] ?_
      refine AE_seqN ?_
      refine AE_ret ?_
      refine zK [2] [(2, (.bool false))] ?_
      simp only [Option.some.injEq] at h
      subst h
      exact zEnd
  · refine AW_reg ?_
    refine zm hT 2 [0, 4] [(0, (.str v1)), (4, (.bool (!(v1.toList == (ByteArray.mk #[]).toList))))] ?_
    refine zO (jQ hT h1) ?_
    refine ze hT 23 [2] [(2, (.bool false))] ?_
    refine AE_seqN ?_
    refine AE_ret ?_
    refine zK [2] [(2, (.bool false))] ?_
    simp only [Option.some.injEq] at h
    subst h
    exact zEnd

def F74 (k : Nat) (v1 : Int) (v2 : ByteArray) (v3 : Int) (v4 : Int) : Option (Bool) :=
  (bif (decide (v1 ≥ 1)) then
    (bif (decide (v1 ≤ 4)) then
      ((F75 k v2).bind fun v5 =>
        (bif v5 then
          (bif (decide (v3 ≥ 0)) then
            (bif (decide (v3 ≤ 65535)) then
              (bif (v1 != 3) then
                some (true)
              else
                some ((v3 == 0)))
            else
              some (false))
          else
            some (false))
        else
          some (false)))
    else
      some (false))
  else
    some (false))

theorem F74_ok (k : Nat) : ∀ (v1 : Int) (v2 : ByteArray) (v3 : Int) (v4 : Int) (r1 : Bool), F74 k v1 v2 v3 v4 = some (r1) → Fn prog 74 [(.agg [(aI v1), (.str v2), (aI v3), (aI v4)])] [] (.bool r1) [] := by
  intro v1 v2 v3 v4 r1 h
  rw [F74] at h
  refine Fn_bodyK hT Go.Proofs.Try.func74 (c := Go.Proofs.Try.f74.body.getD .skip) (by kernel_rfl) (by kernel_rfl) (by kernel_rfl) ?_
  refine zS hT [1] [(1, (.ptr 0 0))] [.cells [(aI v1), (.str v2), (aI v3), (aI v4)]] ?_
  refine AW_seq ?_
  rcases bif_split h with ⟨h1, h⟩ | ⟨h1, h⟩
  · rcases bif_split h with ⟨h2, h⟩ | ⟨h2, h⟩
    · obtain ⟨v5, h3, h⟩ := bsm h
      try dsimp only at h
      rcases bif_split h with ⟨h4, h⟩ | ⟨h4, h⟩
      · rcases bif_split h with ⟨h5, h⟩ | ⟨h5, h⟩
        · rcases bif_split h with ⟨h6, h⟩ | ⟨h6, h⟩
          · rcases bif_split h with ⟨h7, h⟩ | ⟨h7, h⟩
            · refine AW_reg ?_
              refine zm hT 3 [1, 5] [(1, (.ptr 0 0)), (5, (.bool (decide (v1 ≥ 1))))] ?_
              refine zO (jQ hT h1) ?_
              refine zm hT 4 [1, 10] [(1, (.ptr 0 0)), (10, (.bool (decide (v1 ≤ 4))))] ?_
              refine zO (jQ hT h2) ?_
              refine zm hT 2 [1, 11, 13] [(1, (.ptr 0 0)), (11, (.bool true)), (13, (.str v2))] ?_
              refine zO (jP Go.Proofs.Try.func75 (F75_ok k v2 v5 h3)) ?_
              refine zm hT 1 [1, 15] [(1, (.ptr 0 0)), (15, (.bool v5))] ?_
              refine zO (jQ hT h4) ?_
              refine zm hT 4 [1, 20] [(1, (.ptr 0 0)), (20, (.bool (decide (v3 ≥ 0))))] ?_
              refine zO (jQ hT h5) ?_
              refine zm hT 4 [1, 25] [(1, (.ptr 0 0)), (25, (.bool (decide (v3 ≤ 65535))))] ?_
              refine zO (jQ hT h6) ?_
              refine zm hT 3 [1, 26, 29] [(1, (.ptr 0 0)), (26, (.bool true)), (29, (.bool (v1 != 3)))] ?_
              refine zO (jQ hT h7) ?_
              refine ze hT 6 [2] [(2, (.bool true))] ?_
              refine AE_seqN ?_
              refine AE_ret ?_
              refine zK [2] [(2, (.bool true))] ?_
              simp only [Option.some.injEq] at h
              subst h
              exact zEnd
            · refine AW_reg ?_
              refine zm hT 3 [1, 5] [(1, (.ptr 0 0)), (5, (.bool (decide (v1 ≥ 1))))] ?_
              refine zO (jQ hT h1) ?_
              refine zm hT 4 [1, 10] [(1, (.ptr 0 0)), (10, (.bool (decide (v1 ≤ 4))))] ?_
              refine zO (jQ hT h2) ?_
              refine zm hT 2 [1, 11, 13] [(1, (.ptr 0 0)), (11, (.bool true)), (13, (.str v2))] ?_
              refine zO (jP Go.Proofs.Try.func75 (F75_ok k v2 v5 h3)) ?_
              refine zm hT 1 [1, 15] [(1, (.ptr 0 0)), (15, (.bool v5))] ?_
              refine zO (jQ hT h4) ?_
              refine zm hT 4 [1, 20] [(1, (.ptr 0 0)), (20, (.bool (decide (v3 ≥ 0))))] ?_
              refine zO (jQ hT h5) ?_
              refine zm hT 4 [1, 25] [(1, (.ptr 0 0)), (25, (.bool (decide (v3 ≤ 65535))))] ?_
              refine zO (jQ hT h6) ?_
              refine zm hT 3 [1, 26, 29] [(1, (.ptr 0 0)), (26, (.bool true)), (29, (.bool (v1 != 3)))] ?_
              refine zO (jQ hT h7) ?_
              refine ze hT 6 [2] [(2, (.bool (v3 == 0)))] ?_
              refine AE_seqN ?_
              refine AE_ret ?_
              refine zK [2] [(2, (.bool (v3 == 0)))] ?_
              simp only [Option.some.injEq] at h
              subst h
              exact zEnd
          · refine AW_reg ?_
            refine zm hT 3 [1, 5] [(1, (.ptr 0 0)), (5, (.bool (decide (v1 ≥ 1))))] ?_
            refine zO (jQ hT h1) ?_
            refine zm hT 4 [1, 10] [(1, (.ptr 0 0)), (10, (.bool (decide (v1 ≤ 4))))] ?_
            refine zO (jQ hT h2) ?_
            refine zm hT 2 [1, 11, 13] [(1, (.ptr 0 0)), (11, (.bool true)), (13, (.str v2))] ?_
            refine zO (jP Go.Proofs.Try.func75 (F75_ok k v2 v5 h3)) ?_
            refine zm hT 1 [1, 15] [(1, (.ptr 0 0)), (15, (.bool v5))] ?_
            refine zO (jQ hT h4) ?_
            refine zm hT 4 [1, 20] [(1, (.ptr 0 0)), (20, (.bool (decide (v3 ≥ 0))))] ?_
            refine zO (jQ hT h5) ?_
            refine zm hT 4 [1, 25] [(1, (.ptr 0 0)), (25, (.bool (decide (v3 ≤ 65535))))] ?_
            refine zO (jQ hT h6) ?_
            refine ze hT 10 [2] [(2, (.bool false))] ?_
            refine AE_seqN ?_
            refine AE_ret ?_
            refine zK [2] [(2, (.bool false))] ?_
            simp only [Option.some.injEq] at h
            subst h
            exact zEnd
        · refine AW_reg ?_
          refine zm hT 3 [1, 5] [(1, (.ptr 0 0)), (5, (.bool (decide (v1 ≥ 1))))] ?_
          refine zO (jQ hT h1) ?_
          refine zm hT 4 [1, 10] [(1, (.ptr 0 0)), (10, (.bool (decide (v1 ≤ 4))))] ?_
          refine zO (jQ hT h2) ?_
          refine zm hT 2 [1, 11, 13] [(1, (.ptr 0 0)), (11, (.bool true)), (13, (.str v2))] ?_
          refine zO (jP Go.Proofs.Try.func75 (F75_ok k v2 v5 h3)) ?_
          refine zm hT 1 [1, 15] [(1, (.ptr 0 0)), (15, (.bool v5))] ?_
          refine zO (jQ hT h4) ?_
          refine zm hT 4 [1, 20] [(1, (.ptr 0 0)), (20, (.bool (decide (v3 ≥ 0))))] ?_
          refine zO (jQ hT h5) ?_
          refine ze hT 15 [2] [(2, (.bool false))] ?_
          refine AE_seqN ?_
          refine AE_ret ?_
          refine zK [2] [(2, (.bool false))] ?_
          simp only [Option.some.injEq] at h
          subst h
          exact zEnd
      · refine AW_reg ?_
        refine zm hT 3 [1, 5] [(1, (.ptr 0 0)), (5, (.bool (decide (v1 ≥ 1))))] ?_
        refine zO (jQ hT h1) ?_
        refine zm hT 4 [1, 10] [(1, (.ptr 0 0)), (10, (.bool (decide (v1 ≤ 4))))] ?_
        refine zO (jQ hT h2) ?_
        refine zm hT 2 [1, 11, 13] [(1, (.ptr 0 0)), (11, (.bool true)), (13, (.str v2))] ?_
        refine zO (jP Go.Proofs.Try.func75 (F75_ok k v2 v5 h3)) ?_
        refine zm hT 1 [1, 15] [(1, (.ptr 0 0)), (15, (.bool v5))] ?_
        refine zO (jQ hT h4) ?_
        refine ze hT 20 [2] [(2, (.bool false))] ?_
        refine AE_seqN ?_
        refine AE_ret ?_
        refine zK [2] [(2, (.bool false))] ?_
        simp only [Option.some.injEq] at h
        subst h
        exact zEnd
    · refine AW_reg ?_
      refine zm hT 3 [1, 5] [(1, (.ptr 0 0)), (5, (.bool (decide (v1 ≥ 1))))] ?_
      refine zO (jQ hT h1) ?_
      refine zm hT 4 [1, 10] [(1, (.ptr 0 0)), (10, (.bool (decide (v1 ≤ 4))))] ?_
      refine zO (jQ hT h2) ?_
      refine ze hT 25 [2] [(2, (.bool false))] ?_
      refine AE_seqN ?_
      refine AE_ret ?_
      refine zK [2] [(2, (.bool false))] ?_
      simp only [Option.some.injEq] at h
      subst h
      exact zEnd
  · refine AW_reg ?_
    refine zm hT 3 [1, 5] [(1, (.ptr 0 0)), (5, (.bool (decide (v1 ≥ 1))))] ?_
    refine zO (jQ hT h1) ?_
    refine ze hT 30 [2] [(2, (.bool false))] ?_
    refine AE_seqN ?_
    refine AE_ret ?_
    refine zK [2] [(2, (.bool false))] ?_
    simp only [Option.some.injEq] at h
    subst h
    exact zEnd

def F73 (k : Nat) (v1 : Int) (v2 : ByteArray) (v3 : Int) (v4 : Int) : Option (Bool) :=
  ((F74 k v1 v2 v3 v4).bind fun v5 =>
    some ((!v5)))

theorem F73_ok (k : Nat) : ∀ (v1 : Int) (v2 : ByteArray) (v3 : Int) (v4 : Int) (r1 : Bool), F73 k v1 v2 v3 v4 = some (r1) → Fn prog 73 [(.agg [(aI v1), (.str v2), (aI v3), (aI v4)])] [] (.bool r1) [] := by
  intro v1 v2 v3 v4 r1 h
  rw [F73] at h
  refine Fn_bodyK hT Go.Proofs.Try.func73 (c := Go.Proofs.Try.f73.body.getD .skip) (by kernel_rfl) (by kernel_rfl) (by kernel_rfl) ?_
  refine zS hT [1] [(1, (.ptr 0 0))] [.cells [(aI v1), (.str v2), (aI v3), (aI v4)]] ?_
  refine AW_seq ?_
  obtain ⟨v5, h1, h⟩ := bsm h
  try dsimp only at h
  refine AW_reg ?_
  refine zm hT 1 [3] [(3, (.agg [(aI v1), (.str v2), (aI v3), (aI v4)]))] ?_
  refine zO (jP Go.Proofs.Try.func74 (F74_ok k v1 v2 v3 v4 v5 h1)) ?_
  refine ze hT 2 [2] [(2, (.bool (!v5)))] ?_
  refine AE_seqN ?_
  refine AE_ret ?_
  refine zK [2] [(2, (.bool (!v5)))] ?_
  simp only [Option.some.injEq] at h
  subst h
  exact zEnd

def F63_l0 : Nat → (List T76) → Int → Option (Int)
  | 0, _, _ => none
  | k1 + 1, v1, v2 =>
    (bif (decide (v2 < ((l76 v1).length : Int))) then
      ((idx v1 v2).bind fun ⟨v3, v4, v5, v6⟩ =>
        ((F73 k1 v3 v4 v5 v6).bind fun v7 =>
          (bif v7 then
            some (v2)
          else
            F63_l0 k1 v1 (IntKind.wrap .i64 (v2 + 1)))))
    else
      some ((-1)))

def F63 (k : Nat) (v1 : (List T76)) : Option (Int) :=
  F63_l0 k v1 0

theorem F63_ok (k : Nat) : ∀ (v1 : (List T76)) (r1 : Int), F63 k v1 = some (r1) → Fn prog 63 [(.sl (l76 v1)), (.fn 73 [] [])] [] (aI r1) [] := by
  intro v1 r1 h
  rw [F63] at h
  refine Fn_bodyK hT Go.Proofs.Try.func63 (c := Go.Proofs.Try.f63.body.getD .skip) (by kernel_rfl) (by kernel_rfl) (by kernel_rfl) ?_
  refine zs hT [0, 1] [(0, (.sl (l76 v1))), (1, (.fn 73 [] []))] ?_
  refine AW_seq ?_
  refine zs hT [0, 1, 7, 8] [(0, (.sl (l76 v1))), (1, (.fn 73 [] [])), (7, (aI ((l76 v1).length : Int))), (8, (aI 0))] ?_
  refine AW_block ?_
  refine zKw [0, 1, 7, 8] [(0, (.sl (l76 v1))), (1, (.fn 73 [] [])), (7, (aI ((l76 v1).length : Int))), (8, (aI 0))] ?_
  refine AW_loop (fun n env L => n ≤ k ∧ ∃ (v2 : Int), env = [(0, (.sl (l76 v1))), (1, (.fn 73 [] [])), (7, (aI ((l76 v1).length : Int))), (8, (aI v2))] ∧ L = [] ∧ F63_l0 n v1 v2 = some (r1)) k ⟨Nat.le_refl _, 0, rfl, rfl, h⟩ ?_
  rintro n _ _ ⟨hn, v2, rfl, rfl, h⟩
  cases n with
  | zero => rw [F63_l0] at h; cases h
  | succ k1 =>
    rw [F63_l0] at h
    refine zs hT [0, 1, 7, 8, 9] [(0, (.sl (l76 v1))), (1, (.fn 73 [] [])), (7, (aI ((l76 v1).length : Int))), (8, (aI v2)), (9, (.bool (decide (v2 < ((l76 v1).length : Int)))))] ?_
    refine AW_seq ?_
    rcases bif_split h with ⟨h3, h⟩ | ⟨h3, h⟩
    · refine zT h3 ?_
      refine AE_skip ?_
      refine AE_seqN ?_
      refine AW_seq ?_
      refine AW_block ?_
      refine zs hT [0, 1, 5, 7, 8] [(0, (.sl (l76 v1))), (1, (.fn 73 [] [])), (5, (aI v2)), (7, (aI ((l76 v1).length : Int))), (8, (aI v2))] ?_
      refine AW_seq ?_
      obtain ⟨⟨v3, v4, v5, v6⟩, h4, h⟩ := bsm h
      try dsimp only at h
      obtain ⟨v7, h5, h⟩ := bsm h
      try dsimp only at h
      refine AW_reg ?_
      refine zm hT 3 [0, 1, 5, 7, 8, 11, 12, 13] [(0, (.sl (l76 v1))), (1, (.fn 73 [] [])), (5, (aI v2)), (7, (aI ((l76 v1).length : Int))), (8, (aI v2)), (11, (.fn 73 [] [])), (12, (.sl (l76 v1))), (13, (aI v2))] ?_
      refine zO (jX hT 4 (i76 h4)) ?_
      refine zm hT 1 [0, 1, 5, 7, 8, 11, 15] [(0, (.sl (l76 v1))), (1, (.fn 73 [] [])), (5, (aI v2)), (7, (aI ((l76 v1).length : Int))), (8, (aI v2)), (11, (.fn 73 [] [])), (15, (.agg [(aI v3), (.str v4), (aI v5), (aI v6)]))] ?_
      refine zO (jP Go.Proofs.Try.func73 (F73_ok k1 v3 v4 v5 v6 v7 h5)) ?_
      refine zF ?_
      refine zK [0, 1, 5, 7, 8, 16] [(0, (.sl (l76 v1))), (1, (.fn 73 [] [])), (5, (aI v2)), (7, (aI ((l76 v1).length : Int))), (8, (aI v2)), (16, (.bool v7))] ?_
      refine AE_seqN ?_
      rcases bif_split h with ⟨h6, h⟩ | ⟨h6, h⟩
      · refine zT h6 ?_
        refine zs hT [4] [(4, (aI v2))] ?_
        refine AE_ret ?_
        refine AE_blkR ?_
        refine AE_seqR ?_
        refine AE_seqR ?_
        refine AE_blkR ?_
        refine AE_seqR ?_
        refine zK [4] [(4, (aI v2))] ?_
        simp only [Option.some.injEq] at h
        subst h
        exact zEnd
      · refine zN h6 ?_
        refine AE_skip ?_
        refine AE_blkN ?_
        refine AE_seqN ?_
        refine zr hT [0, 1, 7, 8] [(0, (.sl (l76 v1))), (1, (.fn 73 [] [])), (7, (aI ((l76 v1).length : Int))), (8, (aI (IntKind.wrap .i64 (v2 + 1))))] ?_
        refine zK [0, 1, 7, 8] [(0, (.sl (l76 v1))), (1, (.fn 73 [] [])), (7, (aI ((l76 v1).length : Int))), (8, (aI (IntKind.wrap .i64 (v2 + 1))))] ?_
        exact AE_done ⟨k1, by omega, by omega, (IntKind.wrap .i64 (v2 + 1)), rfl, rfl, h⟩
    · refine zN h3 ?_
      refine AE_exit ?_
      refine AE_seqX ?_
      refine AE_seqX ?_
      refine AE_blkH ?_
      refine AE_seqN ?_
      refine zs hT [4] [(4, (aI (-1)))] ?_
      refine AE_ret ?_
      refine zK [4] [(4, (aI (-1)))] ?_
      simp only [Option.some.injEq] at h
      subst h
      exact zEnd

def F72 (k : Nat) (v1 : (List T76)) : Option (Bool) :=
  ((F63 k v1).bind fun v2 =>
    some ((decide (v2 ≥ 0))))

theorem F72_ok (k : Nat) : ∀ (v1 : (List T76)) (r1 : Bool), F72 k v1 = some (r1) → Fn prog 72 [(.sl (l76 v1)), (.fn 73 [] [])] [] (.bool r1) [] := by
  intro v1 r1 h
  rw [F72] at h
  refine Fn_bodyK hT Go.Proofs.Try.func72 (c := Go.Proofs.Try.f72.body.getD .skip) (by kernel_rfl) (by kernel_rfl) (by kernel_rfl) ?_
  refine zs hT [0, 1] [(0, (.sl (l76 v1))), (1, (.fn 73 [] []))] ?_
  refine AW_seq ?_
  obtain ⟨v2, h1, h⟩ := bsm h
  try dsimp only at h
  refine AW_reg ?_
  refine zm hT 2 [5, 6] [(5, (.sl (l76 v1))), (6, (.fn 73 [] []))] ?_
  refine zO (jP Go.Proofs.Try.func63 (F63_ok k v1 v2 h1)) ?_
  refine ze hT 2 [4] [(4, (.bool (decide (v2 ≥ 0))))] ?_
  refine AE_seqN ?_
  refine AE_ret ?_
  refine zK [4] [(4, (.bool (decide (v2 ≥ 0))))] ?_
  simp only [Option.some.injEq] at h
  subst h
  exact zEnd

def F119_j2 (k17 : Nat) (v1 : Int) (v4 : Bool) : Option (Bool × Bool × Int × Bool × Bool × Bool) :=
  (bif v4 then
    some (true, false, 0, false, false, true)
  else
    (bif (v1 == 12) then
      some (false, false, 1, true, true, true)
    else
      (bif (v1 == 13) then
        some (true, false, 1, true, false, true)
      else
        (bif (v1 == 16) then
          some (false, false, 1, false, false, true)
        else
          some (false, false, 0, false, false, false)))))

def F119_j1 (k9 : Nat) (v1 : Int) (v3 : Bool) : Option (Bool × Bool × Int × Bool × Bool × Bool) :=
  (bif v3 then
    some (true, false, 1, false, false, true)
  else
    (bif (v1 == 6) then
      some (true, true, 1, false, false, true)
    else
      (bif (v1 == 7) then
        some (true, true, 2, false, false, true)
      else
        (bif (v1 == 8) then
          some (true, false, 0, true, false, true)
        else
          (bif (v1 == 11) then
            F119_j2 k9 v1 (v1 == 11)
          else
            (bif (v1 == 14) then
              F119_j2 k9 v1 (v1 == 14)
            else
              F119_j2 k9 v1 (v1 == 15)))))))

def F119_j0 (k4 : Nat) (v1 : Int) (v2 : Bool) : Option (Bool × Bool × Int × Bool × Bool × Bool) :=
  (bif v2 then
    some (true, true, 0, false, false, true)
  else
    (bif (v1 == 3) then
      F119_j1 k4 v1 (v1 == 3)
    else
      (bif (v1 == 5) then
        F119_j1 k4 v1 (v1 == 5)
      else
        F119_j1 k4 v1 (v1 == 9))))

def F119 (k : Nat) (v1 : Int) : Option (Bool × Bool × Int × Bool × Bool × Bool) :=
  (bif (v1 == 1) then
    some (false, true, 1, false, false, true)
  else
    (bif (v1 == 2) then
      F119_j0 k v1 (v1 == 2)
    else
      (bif (v1 == 4) then
        F119_j0 k v1 (v1 == 4)
      else
        F119_j0 k v1 (v1 == 10))))

theorem F119_ok (k : Nat) : ∀ (v1 : Int) (r1 : Bool) (r2 : Bool) (r3 : Int) (r4 : Bool) (r5 : Bool) (r6 : Bool), F119 k v1 = some (r1, r2, r3, r4, r5, r6) → Fn prog 119 [(aI v1)] [] (.tup [(.agg [(.bool r1), (.bool r2), (aI r3), (.bool r4), (.bool r5)]), (.bool r6)]) [] := by
  intro v1 r1 r2 r3 r4 r5 r6 h
  rw [F119] at h
  refine Fn_bodyK hT Go.Proofs.Try.func119 (c := Go.Proofs.Try.f119.body.getD .skip) (by kernel_rfl) (by kernel_rfl) (by kernel_rfl) ?_
  refine zS hT [0, 2] [(0, (aI v1)), (2, (.ptr 0 0))] [.cells [(.bool false), (.bool false), (aI 0), (.bool false), (.bool false)]] ?_
  refine AW_seq ?_
  refine zs hT [2, 4] [(2, (.ptr 0 0)), (4, (aI v1))] ?_
  refine AW_block ?_
  refine zs hT [2, 4, 5] [(2, (.ptr 0 0)), (4, (aI v1)), (5, (.bool (v1 == 1)))] ?_
  rcases bif_split h with ⟨h1, h⟩ | ⟨h1, h⟩
  · refine zT h1 ?_
    refine zS hT [2, 3] [(2, (.ptr 0 0)), (3, (.bool true))] [.cells [(.bool false), (.bool true), (aI 1), (.bool false), (.bool false)]] ?_
    refine AE_ret ?_
    refine AE_blkR ?_
    refine AE_seqR ?_
    refine zK [2, 3] [(2, (.ptr 0 0)), (3, (.bool true))] ?_
    simp only [Option.some.injEq, Prod.mk.injEq] at h
    obtain ⟨rfl, rfl, rfl, rfl, rfl, rfl⟩ := h
    exact zEnd
  · refine zN h1 ?_
    refine AW_join (fun env L => ∃ (v2 : Bool), env = [(2, (.ptr 0 0)), (4, (aI v1)), (8, (.bool v2))] ∧ L = [.cells [(.bool false), (.bool false), (aI 0), (.bool false), (.bool false)]] ∧ ∃ n, n ≤ k ∧ F119_j0 n v1 v2 = some (r1, r2, r3, r4, r5, r6)) ?_ ?_
    · refine zs hT [2, 4, 8] [(2, (.ptr 0 0)), (4, (aI v1)), (8, (.bool (v1 == 2)))] ?_
      rcases bif_split h with ⟨h2, h⟩ | ⟨h2, h⟩
      · refine zT h2 ?_
        refine AE_skip ?_
        refine zK [2, 4, 8] [(2, (.ptr 0 0)), (4, (aI v1)), (8, (.bool (v1 == 2)))] ?_
        exact AE_done ⟨(v1 == 2), rfl, rfl, k, by omega, h⟩
      · refine zN h2 ?_
        refine zs hT [2, 4, 8] [(2, (.ptr 0 0)), (4, (aI v1)), (8, (.bool (v1 == 4)))] ?_
        rcases bif_split h with ⟨h3, h⟩ | ⟨h3, h⟩
        · refine zT h3 ?_
          refine AE_skip ?_
          refine zK [2, 4, 8] [(2, (.ptr 0 0)), (4, (aI v1)), (8, (.bool (v1 == 4)))] ?_
          exact AE_done ⟨(v1 == 4), rfl, rfl, k, by omega, h⟩
        · refine zN h3 ?_
          refine zr hT [2, 4, 8] [(2, (.ptr 0 0)), (4, (aI v1)), (8, (.bool (v1 == 10)))] ?_
          refine zK [2, 4, 8] [(2, (.ptr 0 0)), (4, (aI v1)), (8, (.bool (v1 == 10)))] ?_
          exact AE_done ⟨(v1 == 10), rfl, rfl, k, by omega, h⟩
    · rintro _ _ ⟨v2, rfl, rfl, n, hn, h⟩
      obtain ⟨k4, rfl⟩ : ∃ q, q = n := ⟨n, rfl⟩
      rw [F119_j0] at h
      rcases bif_split h with ⟨h6, h⟩ | ⟨h6, h⟩
      · refine zT h6 ?_
        refine zS hT [2, 3] [(2, (.ptr 0 0)), (3, (.bool true))] [.cells [(.bool true), (.bool true), (aI 0), (.bool false), (.bool false)]] ?_
        refine AE_ret ?_
        refine AE_blkR ?_
        refine AE_seqR ?_
        refine zK [2, 3] [(2, (.ptr 0 0)), (3, (.bool true))] ?_
        simp only [Option.some.injEq, Prod.mk.injEq] at h
        obtain ⟨rfl, rfl, rfl, rfl, rfl, rfl⟩ := h
        exact zEnd
      · refine zN h6 ?_
        refine AW_join (fun env L => ∃ (v3 : Bool), env = [(2, (.ptr 0 0)), (4, (aI v1)), (13, (.bool v3))] ∧ L = [.cells [(.bool false), (.bool false), (aI 0), (.bool false), (.bool false)]] ∧ ∃ n, n ≤ k4 ∧ F119_j1 n v1 v3 = some (r1, r2, r3, r4, r5, r6)) ?_ ?_
        · refine zs hT [2, 4, 13] [(2, (.ptr 0 0)), (4, (aI v1)), (13, (.bool (v1 == 3)))] ?_
          rcases bif_split h with ⟨h7, h⟩ | ⟨h7, h⟩
          · refine zT h7 ?_
            refine AE_skip ?_
            refine zK [2, 4, 13] [(2, (.ptr 0 0)), (4, (aI v1)), (13, (.bool (v1 == 3)))] ?_
            exact AE_done ⟨(v1 == 3), rfl, rfl, k4, by omega, h⟩
          · refine zN h7 ?_
            refine zs hT [2, 4, 13] [(2, (.ptr 0 0)), (4, (aI v1)), (13, (.bool (v1 == 5)))] ?_
            rcases bif_split h with ⟨h8, h⟩ | ⟨h8, h⟩
            · refine zT h8 ?_
              refine AE_skip ?_
              refine zK [2, 4, 13] [(2, (.ptr 0 0)), (4, (aI v1)), (13, (.bool (v1 == 5)))] ?_
              exact AE_done ⟨(v1 == 5), rfl, rfl, k4, by omega, h⟩
            · refine zN h8 ?_
              refine zr hT [2, 4, 13] [(2, (.ptr 0 0)), (4, (aI v1)), (13, (.bool (v1 == 9)))] ?_
              refine zK [2, 4, 13] [(2, (.ptr 0 0)), (4, (aI v1)), (13, (.bool (v1 == 9)))] ?_
              exact AE_done ⟨(v1 == 9), rfl, rfl, k4, by omega, h⟩
        · rintro _ _ ⟨v3, rfl, rfl, n, hn, h⟩
          obtain ⟨k9, rfl⟩ : ∃ q, q = n := ⟨n, rfl⟩
          rw [F119_j1] at h
          rcases bif_split h with ⟨h11, h⟩ | ⟨h11, h⟩
          · refine zT h11 ?_
            refine zS hT [2, 3] [(2, (.ptr 0 0)), (3, (.bool true))] [.cells [(.bool true), (.bool false), (aI 1), (.bool false), (.bool false)]] ?_
            refine AE_ret ?_
            refine AE_blkR ?_
            refine AE_seqR ?_
            refine zK [2, 3] [(2, (.ptr 0 0)), (3, (.bool true))] ?_
            simp only [Option.some.injEq, Prod.mk.injEq] at h
            obtain ⟨rfl, rfl, rfl, rfl, rfl, rfl⟩ := h
            exact zEnd
          · refine zN h11 ?_
            refine zs hT [2, 4, 18] [(2, (.ptr 0 0)), (4, (aI v1)), (18, (.bool (v1 == 6)))] ?_
            rcases bif_split h with ⟨h12, h⟩ | ⟨h12, h⟩
            · refine zT h12 ?_
              refine zS hT [2, 3] [(2, (.ptr 0 0)), (3, (.bool true))] [.cells [(.bool true), (.bool true), (aI 1), (.bool false), (.bool false)]] ?_
              refine AE_ret ?_
              refine AE_blkR ?_
              refine AE_seqR ?_
              refine zK [2, 3] [(2, (.ptr 0 0)), (3, (.bool true))] ?_
              simp only [Option.some.injEq, Prod.mk.injEq] at h
              obtain ⟨rfl, rfl, rfl, rfl, rfl, rfl⟩ := h
              exact zEnd
            · refine zN h12 ?_
              refine zs hT [2, 4, 21] [(2, (.ptr 0 0)), (4, (aI v1)), (21, (.bool (v1 == 7)))] ?_
              rcases bif_split h with ⟨h13, h⟩ | ⟨h13, h⟩
              · refine zT h13 ?_
                refine zS hT [2, 3] [(2, (.ptr 0 0)), (3, (.bool true))] [.cells [(.bool true), (.bool true), (aI 2), (.bool false), (.bool false)]] ?_
                refine AE_ret ?_
                refine AE_blkR ?_
                refine AE_seqR ?_
                refine zK [2, 3] [(2, (.ptr 0 0)), (3, (.bool true))] ?_
                simp only [Option.some.injEq, Prod.mk.injEq] at h
                obtain ⟨rfl, rfl, rfl, rfl, rfl, rfl⟩ := h
                exact zEnd
              · refine zN h13 ?_
                refine zs hT [2, 4, 24] [(2, (.ptr 0 0)), (4, (aI v1)), (24, (.bool (v1 == 8)))] ?_
                rcases bif_split h with ⟨h14, h⟩ | ⟨h14, h⟩
                · refine zT h14 ?_
                  refine zS hT [2, 3] [(2, (.ptr 0 0)), (3, (.bool true))] [.cells [(.bool true), (.bool false), (aI 0), (.bool true), (.bool false)]] ?_
                  refine AE_ret ?_
                  refine AE_blkR ?_
                  refine AE_seqR ?_
                  refine zK [2, 3] [(2, (.ptr 0 0)), (3, (.bool true))] ?_
                  simp only [Option.some.injEq, Prod.mk.injEq] at h
                  obtain ⟨rfl, rfl, rfl, rfl, rfl, rfl⟩ := h
                  exact zEnd
                · refine zN h14 ?_
                  refine AW_join (fun env L => ∃ (v4 : Bool), env = [(2, (.ptr 0 0)), (4, (aI v1)), (27, (.bool v4))] ∧ L = [.cells [(.bool false), (.bool false), (aI 0), (.bool false), (.bool false)]] ∧ ∃ n, n ≤ k9 ∧ F119_j2 n v1 v4 = some (r1, r2, r3, r4, r5, r6)) ?_ ?_
                  · refine zs hT [2, 4, 27] [(2, (.ptr 0 0)), (4, (aI v1)), (27, (.bool (v1 == 11)))] ?_
                    rcases bif_split h with ⟨h15, h⟩ | ⟨h15, h⟩
                    · refine zT h15 ?_
                      refine AE_skip ?_
                      refine zK [2, 4, 27] [(2, (.ptr 0 0)), (4, (aI v1)), (27, (.bool (v1 == 11)))] ?_
                      exact AE_done ⟨(v1 == 11), rfl, rfl, k9, by omega, h⟩
                    · refine zN h15 ?_
                      refine zs hT [2, 4, 27] [(2, (.ptr 0 0)), (4, (aI v1)), (27, (.bool (v1 == 14)))] ?_
                      rcases bif_split h with ⟨h16, h⟩ | ⟨h16, h⟩
                      · refine zT h16 ?_
                        refine AE_skip ?_
                        refine zK [2, 4, 27] [(2, (.ptr 0 0)), (4, (aI v1)), (27, (.bool (v1 == 14)))] ?_
                        exact AE_done ⟨(v1 == 14), rfl, rfl, k9, by omega, h⟩
                      · refine zN h16 ?_
                        refine zr hT [2, 4, 27] [(2, (.ptr 0 0)), (4, (aI v1)), (27, (.bool (v1 == 15)))] ?_
                        refine zK [2, 4, 27] [(2, (.ptr 0 0)), (4, (aI v1)), (27, (.bool (v1 == 15)))] ?_
                        exact AE_done ⟨(v1 == 15), rfl, rfl, k9, by omega, h⟩
                  · rintro _ _ ⟨v4, rfl, rfl, n, hn, h⟩
                    obtain ⟨k17, rfl⟩ : ∃ q, q = n := ⟨n, rfl⟩
                    rw [F119_j2] at h
                    rcases bif_split h with ⟨h19, h⟩ | ⟨h19, h⟩
                    · refine zT h19 ?_
                      refine zS hT [2, 3] [(2, (.ptr 0 0)), (3, (.bool true))] [.cells [(.bool true), (.bool false), (aI 0), (.bool false), (.bool false)]] ?_
                      refine AE_ret ?_
                      refine AE_blkR ?_
                      refine AE_seqR ?_
                      refine zK [2, 3] [(2, (.ptr 0 0)), (3, (.bool true))] ?_
                      simp only [Option.some.injEq, Prod.mk.injEq] at h
                      obtain ⟨rfl, rfl, rfl, rfl, rfl, rfl⟩ := h
                      exact zEnd
                    · refine zN h19 ?_
                      refine zs hT [2, 4, 32] [(2, (.ptr 0 0)), (4, (aI v1)), (32, (.bool (v1 == 12)))] ?_
                      rcases bif_split h with ⟨h20, h⟩ | ⟨h20, h⟩
                      · refine zT h20 ?_
                        refine zS hT [2, 3] [(2, (.ptr 0 0)), (3, (.bool true))] [.cells [(.bool false), (.bool false), (aI 1), (.bool true), (.bool true)]] ?_
                        refine AE_ret ?_
                        refine AE_blkR ?_
                        refine AE_seqR ?_
                        refine zK [2, 3] [(2, (.ptr 0 0)), (3, (.bool true))] ?_
                        simp only [Option.some.injEq, Prod.mk.injEq] at h
                        obtain ⟨rfl, rfl, rfl, rfl, rfl, rfl⟩ := h
                        exact zEnd
                      · refine zN h20 ?_
                        refine zs hT [2, 4, 35] [(2, (.ptr 0 0)), (4, (aI v1)), (35, (.bool (v1 == 13)))] ?_
                        rcases bif_split h with ⟨h21, h⟩ | ⟨h21, h⟩
                        · refine zT h21 ?_
                          refine zS hT [2, 3] [(2, (.ptr 0 0)), (3, (.bool true))] [.cells [(.bool true), (.bool false), (aI 1), (.bool true), (.bool false)]] ?_
                          refine AE_ret ?_
                          refine AE_blkR ?_
                          refine AE_seqR ?_
                          refine zK [2, 3] [(2, (.ptr 0 0)), (3, (.bool true))] ?_
                          simp only [Option.some.injEq, Prod.mk.injEq] at h
                          obtain ⟨rfl, rfl, rfl, rfl, rfl, rfl⟩ := h
                          exact zEnd
                        · refine zN h21 ?_
                          refine zs hT [2, 38] [(2, (.ptr 0 0)), (38, (.bool (v1 == 16)))] ?_
                          rcases bif_split h with ⟨h22, h⟩ | ⟨h22, h⟩
                          · refine zT h22 ?_
                            refine zS hT [2, 3] [(2, (.ptr 0 0)), (3, (.bool true))] [.cells [(.bool false), (.bool false), (aI 1), (.bool false), (.bool false)]] ?_
                            refine AE_ret ?_
                            refine AE_blkR ?_
                            refine AE_seqR ?_
                            refine zK [2, 3] [(2, (.ptr 0 0)), (3, (.bool true))] ?_
                            simp only [Option.some.injEq, Prod.mk.injEq] at h
                            obtain ⟨rfl, rfl, rfl, rfl, rfl, rfl⟩ := h
                            exact zEnd
                          · refine zN h22 ?_
                            refine AE_skip ?_
                            refine AE_blkN ?_
                            refine AE_seqN ?_
                            refine zs hT [2, 3] [(2, (.ptr 0 0)), (3, (.bool false))] ?_
                            refine AE_ret ?_
                            refine zK [2, 3] [(2, (.ptr 0 0)), (3, (.bool false))] ?_
                            simp only [Option.some.injEq, Prod.mk.injEq] at h
                            obtain ⟨rfl, rfl, rfl, rfl, rfl, rfl⟩ := h
                            exact zEnd

def F120 (k : Nat) (v1 : ByteArray) (v2 : Bool) : Option (Bool) :=
  (bif v2 then
    ((F75 k v1).bind fun v3 =>
      some (v3))
  else
    some ((v1.toList == (ByteArray.mk #[]).toList)))

theorem F120_ok (k : Nat) : ∀ (v1 : ByteArray) (v2 : Bool) (r1 : Bool), F120 k v1 v2 = some (r1) → Fn prog 120 [(.str v1), (.bool v2)] [] (.bool r1) [] := by
  intro v1 v2 r1 h
  rw [F120] at h
  refine Fn_bodyK hT Go.Proofs.Try.func120 (c := Go.Proofs.Try.f120.body.getD .skip) (by kernel_rfl) (by kernel_rfl) (by kernel_rfl) ?_
  refine zs hT [0, 1] [(0, (.str v1)), (1, (.bool v2))] ?_
  refine AW_seq ?_
  refine zs hT [0, 5] [(0, (.str v1)), (5, (.bool v2))] ?_
  rcases bif_split h with ⟨h1, h⟩ | ⟨h1, h⟩
  · refine zT h1 ?_
    refine AW_seq ?_
    obtain ⟨v3, h2, h⟩ := bsm h
    try dsimp only at h
    refine AW_reg ?_
    refine zm hT 1 [6] [(6, (.str v1))] ?_
    refine zO (jP Go.Proofs.Try.func75 (F75_ok k v1 v3 h2)) ?_
    refine ze hT 1 [4] [(4, (.bool v3))] ?_
    refine AE_seqN ?_
    refine AE_ret ?_
    refine AE_seqR ?_
    refine zK [4] [(4, (.bool v3))] ?_
    simp only [Option.some.injEq] at h
    subst h
    exact zEnd
  · refine zN h1 ?_
    refine AE_skip ?_
    refine AE_seqN ?_
    refine zs hT [4] [(4, (.bool (v1.toList == (ByteArray.mk #[]).toList)))] ?_
    refine AE_ret ?_
    refine zK [4] [(4, (.bool (v1.toList == (ByteArray.mk #[]).toList)))] ?_
    simp only [Option.some.injEq] at h
    subst h
    exact zEnd

def F110_j2 (k20 : Nat) (v1 : ByteArray) (v4 : Bool) : Option (Int) :=
  (bif v4 then
    some (3)
  else
    (bif (v1.toList == (ByteArray.mk #[38, 38]).toList) then
      some (2)
    else
      (bif (v1.toList == (ByteArray.mk #[124, 124]).toList) then
        some (1)
      else
        some (0))))

def F110_j1 (k12 : Nat) (v1 : ByteArray) (v3 : Bool) : Option (Int) :=
  (bif v3 then
    some (4)
  else
    (bif (v1.toList == (ByteArray.mk #[61, 61]).toList) then
      F110_j2 k12 v1 (v1.toList == (ByteArray.mk #[61, 61]).toList)
    else
      (bif (v1.toList == (ByteArray.mk #[33, 61]).toList) then
        F110_j2 k12 v1 (v1.toList == (ByteArray.mk #[33, 61]).toList)
      else
        (bif (v1.toList == (ByteArray.mk #[60]).toList) then
          F110_j2 k12 v1 (v1.toList == (ByteArray.mk #[60]).toList)
        else
          (bif (v1.toList == (ByteArray.mk #[60, 61]).toList) then
            F110_j2 k12 v1 (v1.toList == (ByteArray.mk #[60, 61]).toList)
          else
            (bif (v1.toList == (ByteArray.mk #[62]).toList) then
              F110_j2 k12 v1 (v1.toList == (ByteArray.mk #[62]).toList)
            else
              F110_j2 k12 v1 (v1.toList == (ByteArray.mk #[62, 61]).toList)))))))

def F110_j0 (k6 : Nat) (v1 : ByteArray) (v2 : Bool) : Option (Int) :=
  (bif v2 then
    some (5)
  else
    (bif (v1.toList == (ByteArray.mk #[43]).toList) then
      F110_j1 k6 v1 (v1.toList == (ByteArray.mk #[43]).toList)
    else
      (bif (v1.toList == (ByteArray.mk #[45]).toList) then
        F110_j1 k6 v1 (v1.toList == (ByteArray.mk #[45]).toList)
      else
        (bif (v1.toList == (ByteArray.mk #[124]).toList) then
          F110_j1 k6 v1 (v1.toList == (ByteArray.mk #[124]).toList)
        else
          F110_j1 k6 v1 (v1.toList == (ByteArray.mk #[94]).toList)))))

def F110 (k : Nat) (v1 : ByteArray) : Option (Int) :=
  (bif (v1.toList == (ByteArray.mk #[42]).toList) then
    F110_j0 k v1 (v1.toList == (ByteArray.mk #[42]).toList)
  else
    (bif (v1.toList == (ByteArray.mk #[47]).toList) then
      F110_j0 k v1 (v1.toList == (ByteArray.mk #[47]).toList)
    else
      (bif (v1.toList == (ByteArray.mk #[37]).toList) then
        F110_j0 k v1 (v1.toList == (ByteArray.mk #[37]).toList)
      else
        (bif (v1.toList == (ByteArray.mk #[60, 60]).toList) then
          F110_j0 k v1 (v1.toList == (ByteArray.mk #[60, 60]).toList)
        else
          (bif (v1.toList == (ByteArray.mk #[62, 62]).toList) then
            F110_j0 k v1 (v1.toList == (ByteArray.mk #[62, 62]).toList)
          else
            F110_j0 k v1 (v1.toList == (ByteArray.mk #[38]).toList))))))

theorem F110_ok (k : Nat) : ∀ (v1 : ByteArray) (r1 : Int), F110 k v1 = some (r1) → Fn prog 110 [(.str v1)] [] (aI r1) [] := by
  intro v1 r1 h
  rw [F110] at h
  refine Fn_bodyK hT Go.Proofs.Try.func110 (c := Go.Proofs.Try.f110.body.getD .skip) (by kernel_rfl) (by kernel_rfl) (by kernel_rfl) ?_
  refine zs hT [0] [(0, (.str v1))] ?_
  refine AW_seq ?_
  refine zs hT [3] [(3, (.str v1))] ?_
  refine AW_block ?_
  refine AW_join (fun env L => ∃ (v2 : Bool), env = [(3, (.str v1)), (4, (.bool v2))] ∧ L = [] ∧ ∃ n, n ≤ k ∧ F110_j0 n v1 v2 = some (r1)) ?_ ?_
  · refine zs hT [3, 4] [(3, (.str v1)), (4, (.bool (v1.toList == (ByteArray.mk #[42]).toList)))] ?_
    rcases bif_split h with ⟨h1, h⟩ | ⟨h1, h⟩
    · refine zT h1 ?_
      refine AE_skip ?_
      refine zK [3, 4] [(3, (.str v1)), (4, (.bool (v1.toList == (ByteArray.mk #[42]).toList)))] ?_
      exact AE_done ⟨(v1.toList == (ByteArray.mk #[42]).toList), rfl, rfl, k, by omega, h⟩
    · refine zN h1 ?_
      refine zs hT [3, 4] [(3, (.str v1)), (4, (.bool (v1.toList == (ByteArray.mk #[47]).toList)))] ?_
      rcases bif_split h with ⟨h2, h⟩ | ⟨h2, h⟩
      · refine zT h2 ?_
        refine AE_skip ?_
        refine zK [3, 4] [(3, (.str v1)), (4, (.bool (v1.toList == (ByteArray.mk #[47]).toList)))] ?_
        exact AE_done ⟨(v1.toList == (ByteArray.mk #[47]).toList), rfl, rfl, k, by omega, h⟩
      · refine zN h2 ?_
        refine zs hT [3, 4] [(3, (.str v1)), (4, (.bool (v1.toList == (ByteArray.mk #[37]).toList)))] ?_
        rcases bif_split h with ⟨h3, h⟩ | ⟨h3, h⟩
        · refine zT h3 ?_
          refine AE_skip ?_
          refine zK [3, 4] [(3, (.str v1)), (4, (.bool (v1.toList == (ByteArray.mk #[37]).toList)))] ?_
          exact AE_done ⟨(v1.toList == (ByteArray.mk #[37]).toList), rfl, rfl, k, by omega, h⟩
        · refine zN h3 ?_
          refine zs hT [3, 4] [(3, (.str v1)), (4, (.bool (v1.toList == (ByteArray.mk #[60, 60]).toList)))] ?_
          rcases bif_split h with ⟨h4, h⟩ | ⟨h4, h⟩
          · refine zT h4 ?_
            refine AE_skip ?_
            refine zK [3, 4] [(3, (.str v1)), (4, (.bool (v1.toList == (ByteArray.mk #[60, 60]).toList)))] ?_
            exact AE_done ⟨(v1.toList == (ByteArray.mk #[60, 60]).toList), rfl, rfl, k, by omega, h⟩
          · refine zN h4 ?_
            refine zs hT [3, 4] [(3, (.str v1)), (4, (.bool (v1.toList == (ByteArray.mk #[62, 62]).toList)))] ?_
            rcases bif_split h with ⟨h5, h⟩ | ⟨h5, h⟩
            · refine zT h5 ?_
              refine AE_skip ?_
              refine zK [3, 4] [(3, (.str v1)), (4, (.bool (v1.toList == (ByteArray.mk #[62, 62]).toList)))] ?_
              exact AE_done ⟨(v1.toList == (ByteArray.mk #[62, 62]).toList), rfl, rfl, k, by omega, h⟩
            · refine zN h5 ?_
              refine zr hT [3, 4] [(3, (.str v1)), (4, (.bool (v1.toList == (ByteArray.mk #[38]).toList)))] ?_
              refine zK [3, 4] [(3, (.str v1)), (4, (.bool (v1.toList == (ByteArray.mk #[38]).toList)))] ?_
              exact AE_done ⟨(v1.toList == (ByteArray.mk #[38]).toList), rfl, rfl, k, by omega, h⟩
  · rintro _ _ ⟨v2, rfl, rfl, n, hn, h⟩
    obtain ⟨k6, rfl⟩ : ∃ q, q = n := ⟨n, rfl⟩
    rw [F110_j0] at h
    rcases bif_split h with ⟨h8, h⟩ | ⟨h8, h⟩
    · refine zT h8 ?_
      refine zs hT [2] [(2, (aI 5))] ?_
      refine AE_ret ?_
      refine AE_blkR ?_
      refine AE_seqR ?_
      refine zK [2] [(2, (aI 5))] ?_
      simp only [Option.some.injEq] at h
      subst h
      exact zEnd
    · refine zN h8 ?_
      refine AW_join (fun env L => ∃ (v3 : Bool), env = [(3, (.str v1)), (11, (.bool v3))] ∧ L = [] ∧ ∃ n, n ≤ k6 ∧ F110_j1 n v1 v3 = some (r1)) ?_ ?_
      · refine zs hT [3, 11] [(3, (.str v1)), (11, (.bool (v1.toList == (ByteArray.mk #[43]).toList)))] ?_
        rcases bif_split h with ⟨h9, h⟩ | ⟨h9, h⟩
        · refine zT h9 ?_
          refine AE_skip ?_
          refine zK [3, 11] [(3, (.str v1)), (11, (.bool (v1.toList == (ByteArray.mk #[43]).toList)))] ?_
          exact AE_done ⟨(v1.toList == (ByteArray.mk #[43]).toList), rfl, rfl, k6, by omega, h⟩
        · refine zN h9 ?_
          refine zs hT [3, 11] [(3, (.str v1)), (11, (.bool (v1.toList == (ByteArray.mk #[45]).toList)))] ?_
          rcases bif_split h with ⟨h10, h⟩ | ⟨h10, h⟩
          · refine zT h10 ?_
            refine AE_skip ?_
            refine zK [3, 11] [(3, (.str v1)), (11, (.bool (v1.toList == (ByteArray.mk #[45]).toList)))] ?_
            exact AE_done ⟨(v1.toList == (ByteArray.mk #[45]).toList), rfl, rfl, k6, by omega, h⟩
          · refine zN h10 ?_
            refine zs hT [3, 11] [(3, (.str v1)), (11, (.bool (v1.toList == (ByteArray.mk #[124]).toList)))] ?_
            rcases bif_split h with ⟨h11, h⟩ | ⟨h11, h⟩
            · refine zT h11 ?_
              refine AE_skip ?_
              refine zK [3, 11] [(3, (.str v1)), (11, (.bool (v1.toList == (ByteArray.mk #[124]).toList)))] ?_
              exact AE_done ⟨(v1.toList == (ByteArray.mk #[124]).toList), rfl, rfl, k6, by omega, h⟩
            · refine zN h11 ?_
              refine zr hT [3, 11] [(3, (.str v1)), (11, (.bool (v1.toList == (ByteArray.mk #[94]).toList)))] ?_
              refine zK [3, 11] [(3, (.str v1)), (11, (.bool (v1.toList == (ByteArray.mk #[94]).toList)))] ?_
              exact AE_done ⟨(v1.toList == (ByteArray.mk #[94]).toList), rfl, rfl, k6, by omega, h⟩
      · rintro _ _ ⟨v3, rfl, rfl, n, hn, h⟩
        obtain ⟨k12, rfl⟩ : ∃ q, q = n := ⟨n, rfl⟩
        rw [F110_j1] at h
        rcases bif_split h with ⟨h14, h⟩ | ⟨h14, h⟩
        · refine zT h14 ?_
          refine zs hT [2] [(2, (aI 4))] ?_
          refine AE_ret ?_
          refine AE_blkR ?_
          refine AE_seqR ?_
          refine zK [2] [(2, (aI 4))] ?_
          simp only [Option.some.injEq] at h
          subst h
          exact zEnd
        · refine zN h14 ?_
          refine AW_join (fun env L => ∃ (v4 : Bool), env = [(3, (.str v1)), (16, (.bool v4))] ∧ L = [] ∧ ∃ n, n ≤ k12 ∧ F110_j2 n v1 v4 = some (r1)) ?_ ?_
          · refine zs hT [3, 16] [(3, (.str v1)), (16, (.bool (v1.toList == (ByteArray.mk #[61, 61]).toList)))] ?_
            rcases bif_split h with ⟨h15, h⟩ | ⟨h15, h⟩
            · refine zT h15 ?_
              refine AE_skip ?_
              refine zK [3, 16] [(3, (.str v1)), (16, (.bool (v1.toList == (ByteArray.mk #[61, 61]).toList)))] ?_
              exact AE_done ⟨(v1.toList == (ByteArray.mk #[61, 61]).toList), rfl, rfl, k12, by omega, h⟩
            · refine zN h15 ?_
              refine zs hT [3, 16] [(3, (.str v1)), (16, (.bool (v1.toList == (ByteArray.mk #[33, 61]).toList)))] ?_
              rcases bif_split h with ⟨h16, h⟩ | ⟨h16, h⟩
              · refine zT h16 ?_
                refine AE_skip ?_
                refine zK [3, 16] [(3, (.str v1)), (16, (.bool (v1.toList == (ByteArray.mk #[33, 61]).toList)))] ?_
                exact AE_done ⟨(v1.toList == (ByteArray.mk #[33, 61]).toList), rfl, rfl, k12, by omega, h⟩
              · refine zN h16 ?_
                refine zs hT [3, 16] [(3, (.str v1)), (16, (.bool (v1.toList == (ByteArray.mk #[60]).toList)))] ?_
                rcases bif_split h with ⟨h17, h⟩ | ⟨h17, h⟩
                · refine zT h17 ?_
                  refine AE_skip ?_
                  refine zK [3, 16] [(3, (.str v1)), (16, (.bool (v1.toList == (ByteArray.mk #[60]).toList)))] ?_
                  exact AE_done ⟨(v1.toList == (ByteArray.mk #[60]).toList), rfl, rfl, k12, by omega, h⟩
                · refine zN h17 ?_
                  refine zs hT [3, 16] [(3, (.str v1)), (16, (.bool (v1.toList == (ByteArray.mk #[60, 61]).toList)))] ?_
                  rcases bif_split h with ⟨h18, h⟩ | ⟨h18, h⟩
                  · refine zT h18 ?_
                    refine AE_skip ?_
                    refine zK [3, 16] [(3, (.str v1)), (16, (.bool (v1.toList == (ByteArray.mk #[60, 61]).toList)))] ?_
                    exact AE_done ⟨(v1.toList == (ByteArray.mk #[60, 61]).toList), rfl, rfl, k12, by omega, h⟩
                  · refine zN h18 ?_
                    refine zs hT [3, 16] [(3, (.str v1)), (16, (.bool (v1.toList == (ByteArray.mk #[62]).toList)))] ?_
                    rcases bif_split h with ⟨h19, h⟩ | ⟨h19, h⟩
                    · refine zT h19 ?_
                      refine AE_skip ?_
                      refine zK [3, 16] [(3, (.str v1)), (16, (.bool (v1.toList == (ByteArray.mk #[62]).toList)))] ?_
                      exact AE_done ⟨(v1.toList == (ByteArray.mk #[62]).toList), rfl, rfl, k12, by omega, h⟩
                    · refine zN h19 ?_
                      refine zr hT [3, 16] [(3, (.str v1)), (16, (.bool (v1.toList == (ByteArray.mk #[62, 61]).toList)))] ?_
                      refine zK [3, 16] [(3, (.str v1)), (16, (.bool (v1.toList == (ByteArray.mk #[62, 61]).toList)))] ?_
                      exact AE_done ⟨(v1.toList == (ByteArray.mk #[62, 61]).toList), rfl, rfl, k12, by omega, h⟩
          · rintro _ _ ⟨v4, rfl, rfl, n, hn, h⟩
            obtain ⟨k20, rfl⟩ : ∃ q, q = n := ⟨n, rfl⟩
            rw [F110_j2] at h
            rcases bif_split h with ⟨h22, h⟩ | ⟨h22, h⟩
            · refine zT h22 ?_
              refine zs hT [2] [(2, (aI 3))] ?_
              refine AE_ret ?_
              refine AE_blkR ?_
              refine AE_seqR ?_
              refine zK [2] [(2, (aI 3))] ?_
              simp only [Option.some.injEq] at h
              subst h
              exact zEnd
            · refine zN h22 ?_
              refine zs hT [3, 23] [(3, (.str v1)), (23, (.bool (v1.toList == (ByteArray.mk #[38, 38]).toList)))] ?_
              rcases bif_split h with ⟨h23, h⟩ | ⟨h23, h⟩
              · refine zT h23 ?_
                refine zs hT [2] [(2, (aI 2))] ?_
                refine AE_ret ?_
                refine AE_blkR ?_
                refine AE_seqR ?_
                refine zK [2] [(2, (aI 2))] ?_
                simp only [Option.some.injEq] at h
                subst h
                exact zEnd
              · refine zN h23 ?_
                refine zs hT [25] [(25, (.bool (v1.toList == (ByteArray.mk #[124, 124]).toList)))] ?_
                rcases bif_split h with ⟨h24, h⟩ | ⟨h24, h⟩
                · refine zT h24 ?_
                  refine zs hT [2] [(2, (aI 1))] ?_
                  refine AE_ret ?_
                  refine AE_blkR ?_
                  refine AE_seqR ?_
                  refine zK [2] [(2, (aI 1))] ?_
                  simp only [Option.some.injEq] at h
                  subst h
                  exact zEnd
                · refine zN h24 ?_
                  refine AE_skip ?_
                  refine AE_blkN ?_
                  refine AE_seqN ?_
                  refine zs hT [2] [(2, (aI 0))] ?_
                  refine AE_ret ?_
                  refine zK [2] [(2, (aI 0))] ?_
                  simp only [Option.some.injEq] at h
                  subst h
                  exact zEnd

mutual
def F111 : Nat → (List T57) → Int → Int → Int → Option (Bool × Int)
  | 0, _, _, _, _ => none
  | k + 1, v1, v2, v3, v4 =>
    ((F134 k v1 v2 v3 v4).bind fun ⟨v5, v6⟩ =>
      some ((decide (v5 ≥ 0)), v6))
def F112 : Nat → Int → ByteArray → Int → ByteArray → (List T57) → Int → Int → Int → Int → Option (Bool × Int)
  | 0, _, _, _, _, _, _, _, _, _ => none
  | k + 1, v1, v2, v3, v4, v5, v6, v7, v8, v9 =>
    ((F61 k v1 v2 v3 v4 v5 v6 (IntKind.wrap .i64 (v9 - 1)) v7 v8).bind fun ⟨v10, v11⟩ =>
      some ((!v10), v11))
def F134 : Nat → (List T57) → Int → Int → Int → Option (Int × Int)
  | 0, _, _, _, _ => none
  | k + 1, v1, v2, v3, v4 =>
    F134_l0 k v1 v2 v4 0 v3
def F134_l0 : Nat → (List T57) → Int → Int → Int → Int → Option (Int × Int)
  | 0, _, _, _, _, _ => none
  | k1 + 1, v1, v2, v4, v5, v6 =>
    (bif (decide (v5 < ((l57 v1).length : Int))) then
      ((idx v1 v5).bind fun ⟨v7, v8, v9, v10, v11, v12⟩ =>
        ((F112 k1 v7 v8 v9 v10 v11 v12 v2 v6 v4).bind fun ⟨v13, v14⟩ =>
          (bif v13 then
            some (v5, v14)
          else
            F134_l0 k1 v1 v2 v4 (IntKind.wrap .i64 (v5 + 1)) v14)))
    else
      some ((-1), v6))
def F61 : Nat → Int → ByteArray → Int → ByteArray → (List T57) → Int → Int → Int → Int → Option (Bool × Int)
  | 0, _, _, _, _, _, _, _, _, _ => none
  | k + 1, v1, v2, v3, v4, v5, v6, v7, v8, v9 =>
    (bif (decide ((IntKind.wrap .i64 (v9 + 1)) > 8192)) then
      F61_j0 k v8 v9 v1 v2 v3 v4 v5 v7 true
    else
      F61_j0 k v8 v9 v1 v2 v3 v4 v5 v7 (decide (v7 < 1)))
def F61_j0 : Nat → Int → Int → Int → ByteArray → Int → ByteArray → (List T57) → Int → Bool → Option (Bool × Int)
  | 0, _, _, _, _, _, _, _, _, _ => none
  | k2 + 1, v8, v9, v1, v2, v3, v4, v5, v7, v10 =>
    (bif v10 then
      some (false, (IntKind.wrap .i64 (v9 + 1)))
    else
      (bif (v1 == 1) then
        (bif (v2.toList == (ByteArray.mk #[]).toList) then
          (bif (v4.toList == (ByteArray.mk #[]).toList) then
            (bif (decide (v3 ≥ 0)) then
              F61_j1 k2 v8 v9 v5 v7 0 (decide (v3 ≤ 65535))
            else
              F61_j1 k2 v8 v9 v5 v7 0 false)
          else
            F61_j1 k2 v8 v9 v5 v7 0 false)
        else
          F61_j1 k2 v8 v9 v5 v7 0 false)
      else
        (bif (v1 == 2) then
          (bif (v2.toList == (ByteArray.mk #[]).toList) then
            (bif (v3 == 0) then
              ((F75 k2 v4).bind fun v13 =>
                F61_j1 k2 v8 v9 v5 v7 0 v13)
            else
              F61_j1 k2 v8 v9 v5 v7 0 false)
          else
            F61_j1 k2 v8 v9 v5 v7 0 false)
        else
          (bif (v1 == 3) then
            (bif (v2.toList == (ByteArray.mk #[45]).toList) then
              (bif (v3 == 0) then
                F61_j1 k2 v8 v9 v5 v7 1 (v4.toList == (ByteArray.mk #[]).toList)
              else
                F61_j1 k2 v8 v9 v5 v7 1 false)
            else
              (bif (v2.toList == (ByteArray.mk #[126]).toList) then
                (bif (v3 == 0) then
                  F61_j1 k2 v8 v9 v5 v7 1 (v4.toList == (ByteArray.mk #[]).toList)
                else
                  F61_j1 k2 v8 v9 v5 v7 1 false)
              else
                (bif (v2.toList == (ByteArray.mk #[33]).toList) then
                  (bif (v3 == 0) then
                    F61_j1 k2 v8 v9 v5 v7 1 (v4.toList == (ByteArray.mk #[]).toList)
                  else
                    F61_j1 k2 v8 v9 v5 v7 1 false)
                else
                  F61_j1 k2 v8 v9 v5 v7 1 false)))
          else
            (bif (v1 == 4) then
              ((F110 k2 v2).bind fun v14 =>
                (bif (decide (v14 > 0)) then
                  (bif (v3 == 0) then
                    F61_j1 k2 v8 v9 v5 v7 2 (v4.toList == (ByteArray.mk #[]).toList)
                  else
                    F61_j1 k2 v8 v9 v5 v7 2 false)
                else
                  F61_j1 k2 v8 v9 v5 v7 2 false))
            else
              F61_j1 k2 v8 v9 v5 v7 0 false)))))
def F61_j1 : Nat → Int → Int → (List T57) → Int → Int → Bool → Option (Bool × Int)
  | 0, _, _, _, _, _, _ => none
  | k24 + 1, v8, v9, v5, v7, v11, v12 =>
    (bif v12 then
      (bif (((l57 v5).length : Int) == v11) then
        ((F111 k24 v5 v8 (IntKind.wrap .i64 (v9 + 1)) v7).bind fun ⟨v15, v16⟩ =>
          some ((!v15), v16))
      else
        some (false, (IntKind.wrap .i64 (v9 + 1))))
    else
      some (false, (IntKind.wrap .i64 (v9 + 1))))
end

theorem F112_step (K0 : Nat) (ih_F112 : ∀ k, k < K0 → ∀ (v1 : Int) (v2 : ByteArray) (v3 : Int) (v4 : ByteArray) (v5 : (List T57)) (v6 : Int) (v7 : Int) (v8 : Int) (v9 : Int) (r1 : Bool) (r2 : Int), F112 k v1 v2 v3 v4 v5 v6 v7 v8 v9 = some (r1, r2) → Fn prog 112 [(.agg [(aI v1), (.str v2), (aI v3), (.str v4), (.sl (l57 v5)), (aI v6)]), (.ptr 0 0), (.ptr 2 0)] [.cells [(.ptr 1 0)], .cells [(aI v7), (aI v8)], .cells [(aI v9)]] (.bool r1) [.cells [(.ptr 1 0)], .cells [(aI v7), (aI r2)], .cells [(aI v9)]]) (ih_F134 : ∀ k, k < K0 → ∀ (v1 : (List T57)) (v2 : Int) (v3 : Int) (v4 : Int) (r1 : Int) (r2 : Int), F134 k v1 v2 v3 v4 = some (r1, r2) → Fn prog 134 [(.sl (l57 v1)), (.fn 112 [] [(.ptr 0 0), (.ptr 2 0)])] [.cells [(.ptr 1 0)], .cells [(aI v2), (aI v3)], .cells [(aI v4)]] (aI r1) [.cells [(.ptr 1 0)], .cells [(aI v2), (aI r2)], .cells [(aI v4)]]) (ih_F111 : ∀ k, k < K0 → ∀ (v1 : (List T57)) (v2 : Int) (v3 : Int) (v4 : Int) (r1 : Bool) (r2 : Int), F111 k v1 v2 v3 v4 = some (r1, r2) → Fn prog 111 [(.sl (l57 v1)), (.fn 112 [] [(.ptr 0 0), (.ptr 2 0)])] [.cells [(.ptr 1 0)], .cells [(aI v2), (aI v3)], .cells [(aI v4)]] (.bool r1) [.cells [(.ptr 1 0)], .cells [(aI v2), (aI r2)], .cells [(aI v4)]]) (ih_F61 : ∀ k, k < K0 → ∀ (v1 : Int) (v2 : ByteArray) (v3 : Int) (v4 : ByteArray) (v5 : (List T57)) (v6 : Int) (v7 : Int) (v8 : Int) (v9 : Int) (r1 : Bool) (r2 : Int), F61 k v1 v2 v3 v4 v5 v6 v7 v8 v9 = some (r1, r2) → Fn prog 61 [(.ptr 0 0), (.agg [(aI v1), (.str v2), (aI v3), (.str v4), (.sl (l57 v5)), (aI v6)]), (aI v7)] [.cells [(aI v8), (aI v9)]] (.bool r1) [.cells [(aI v8), (aI r2)]]) : ∀ (v1 : Int) (v2 : ByteArray) (v3 : Int) (v4 : ByteArray) (v5 : (List T57)) (v6 : Int) (v7 : Int) (v8 : Int) (v9 : Int) (r1 : Bool) (r2 : Int), F112 K0 v1 v2 v3 v4 v5 v6 v7 v8 v9 = some (r1, r2) → Fn prog 112 [(.agg [(aI v1), (.str v2), (aI v3), (.str v4), (.sl (l57 v5)), (aI v6)]), (.ptr 0 0), (.ptr 2 0)] [.cells [(.ptr 1 0)], .cells [(aI v7), (aI v8)], .cells [(aI v9)]] (.bool r1) [.cells [(.ptr 1 0)], .cells [(aI v7), (aI r2)], .cells [(aI v9)]] := by
  intro v1 v2 v3 v4 v5 v6 v7 v8 v9 r1 r2 h
  cases K0 with
  | zero => rw [F112] at h; cases h
  | succ k =>
    have hk : k < k + 1 := Nat.lt_succ_self k
    rw [F112] at h
    refine Fn_bodyK hT Go.Proofs.Try.func112 (c := Go.Proofs.Try.f112.body.getD .skip) (by kernel_rfl) (by kernel_rfl) (by kernel_rfl) ?_
    refine zS hT [1, 2, 3] [(1, (.ptr 0 0)), (2, (.ptr 2 0)), (3, (.ptr 3 0))] [.cells [(.ptr 1 0)], .cells [(aI v7), (aI v8)], .cells [(aI v9)], .cells [(aI v1), (.str v2), (aI v3), (.str v4), (.sl (l57 v5)), (aI v6)]] ?_
    refine AW_seq ?_
    obtain ⟨⟨v10, v11⟩, h1, h⟩ := bsm h
    try dsimp only at h
    refine AW_reg ?_
    refine zm hT 4 [5, 6, 8] [(5, (.ptr 1 0)), (6, (.agg [(aI v1), (.str v2), (aI v3), (.str v4), (.sl (l57 v5)), (aI v6)])), (8, (aI (IntKind.wrap .i64 (v9 - 1))))] ?_
    refine zO (jC Go.Proofs.Try.func61 (Fn_in (L := [.cells [(.ptr 1 0)], .cells [(aI v7), (aI v8)], .cells [(aI v9)], .cells [(aI v1), (.str v2), (aI v3), (.str v4), (.sl (l57 v5)), (aI v6)]]) (args' := [(.ptr 1 0), (.agg [(aI v1), (.str v2), (aI v3), (.str v4), (.sl (l57 v5)), (aI v6)]), (aI (IntKind.wrap .i64 (v9 - 1)))]) (res' := (.bool v10)) (L'' := [.cells [(.ptr 1 0)], .cells [(aI v7), (aI v11)], .cells [(aI v9)], .cells [(aI v1), (.str v2), (aI v3), (.str v4), (.sl (l57 v5)), (aI v6)]]) [1] (ih_F61 k hk v1 v2 v3 v4 v5 v6 (IntKind.wrap .i64 (v9 - 1)) v7 v8 v10 v11 h1) rfl (by decide) ⟨(by simp [AV.ren, AV.rens, AObj.ren, gname]), trivial⟩ (by simp [AV.low, AV.lows, AObj.low]) (by simp [AV.low, AV.lows, AObj.low]) (by kernel_rfl) (by simp [AV.ren, AV.rens, AObj.ren, gname, putBack]) (by simp [AV.ren, AV.rens, AObj.ren, gname, putBack]) (by simp [AV.ren, AV.rens, AObj.ren, gname, putBack]))) ?_
    refine ze hT 2 [4] [(4, (.bool (!v10)))] ?_
    refine AE_seqN ?_
    refine AE_ret ?_
    refine zK [4] [(4, (.bool (!v10)))] ?_
    simp only [Option.some.injEq, Prod.mk.injEq] at h
    obtain ⟨rfl, rfl⟩ := h
    exact zEnd

theorem F134_step (K0 : Nat) (ih_F112 : ∀ k, k < K0 → ∀ (v1 : Int) (v2 : ByteArray) (v3 : Int) (v4 : ByteArray) (v5 : (List T57)) (v6 : Int) (v7 : Int) (v8 : Int) (v9 : Int) (r1 : Bool) (r2 : Int), F112 k v1 v2 v3 v4 v5 v6 v7 v8 v9 = some (r1, r2) → Fn prog 112 [(.agg [(aI v1), (.str v2), (aI v3), (.str v4), (.sl (l57 v5)), (aI v6)]), (.ptr 0 0), (.ptr 2 0)] [.cells [(.ptr 1 0)], .cells [(aI v7), (aI v8)], .cells [(aI v9)]] (.bool r1) [.cells [(.ptr 1 0)], .cells [(aI v7), (aI r2)], .cells [(aI v9)]]) (ih_F134 : ∀ k, k < K0 → ∀ (v1 : (List T57)) (v2 : Int) (v3 : Int) (v4 : Int) (r1 : Int) (r2 : Int), F134 k v1 v2 v3 v4 = some (r1, r2) → Fn prog 134 [(.sl (l57 v1)), (.fn 112 [] [(.ptr 0 0), (.ptr 2 0)])] [.cells [(.ptr 1 0)], .cells [(aI v2), (aI v3)], .cells [(aI v4)]] (aI r1) [.cells [(.ptr 1 0)], .cells [(aI v2), (aI r2)], .cells [(aI v4)]]) (ih_F111 : ∀ k, k < K0 → ∀ (v1 : (List T57)) (v2 : Int) (v3 : Int) (v4 : Int) (r1 : Bool) (r2 : Int), F111 k v1 v2 v3 v4 = some (r1, r2) → Fn prog 111 [(.sl (l57 v1)), (.fn 112 [] [(.ptr 0 0), (.ptr 2 0)])] [.cells [(.ptr 1 0)], .cells [(aI v2), (aI v3)], .cells [(aI v4)]] (.bool r1) [.cells [(.ptr 1 0)], .cells [(aI v2), (aI r2)], .cells [(aI v4)]]) (ih_F61 : ∀ k, k < K0 → ∀ (v1 : Int) (v2 : ByteArray) (v3 : Int) (v4 : ByteArray) (v5 : (List T57)) (v6 : Int) (v7 : Int) (v8 : Int) (v9 : Int) (r1 : Bool) (r2 : Int), F61 k v1 v2 v3 v4 v5 v6 v7 v8 v9 = some (r1, r2) → Fn prog 61 [(.ptr 0 0), (.agg [(aI v1), (.str v2), (aI v3), (.str v4), (.sl (l57 v5)), (aI v6)]), (aI v7)] [.cells [(aI v8), (aI v9)]] (.bool r1) [.cells [(aI v8), (aI r2)]]) : ∀ (v1 : (List T57)) (v2 : Int) (v3 : Int) (v4 : Int) (r1 : Int) (r2 : Int), F134 K0 v1 v2 v3 v4 = some (r1, r2) → Fn prog 134 [(.sl (l57 v1)), (.fn 112 [] [(.ptr 0 0), (.ptr 2 0)])] [.cells [(.ptr 1 0)], .cells [(aI v2), (aI v3)], .cells [(aI v4)]] (aI r1) [.cells [(.ptr 1 0)], .cells [(aI v2), (aI r2)], .cells [(aI v4)]] := by
  intro v1 v2 v3 v4 r1 r2 h
  cases K0 with
  | zero => rw [F134] at h; cases h
  | succ k =>
    have hk : k < k + 1 := Nat.lt_succ_self k
    rw [F134] at h
    refine Fn_bodyK hT Go.Proofs.Try.func134 (c := Go.Proofs.Try.f134.body.getD .skip) (by kernel_rfl) (by kernel_rfl) (by kernel_rfl) ?_
    refine zs hT [0, 1] [(0, (.sl (l57 v1))), (1, (.fn 112 [] [(.ptr 0 0), (.ptr 2 0)]))] ?_
    refine AW_seq ?_
    refine zs hT [0, 1, 7, 8] [(0, (.sl (l57 v1))), (1, (.fn 112 [] [(.ptr 0 0), (.ptr 2 0)])), (7, (aI ((l57 v1).length : Int))), (8, (aI 0))] ?_
    refine AW_block ?_
    refine zKw [0, 1, 7, 8] [(0, (.sl (l57 v1))), (1, (.fn 112 [] [(.ptr 0 0), (.ptr 2 0)])), (7, (aI ((l57 v1).length : Int))), (8, (aI 0))] ?_
    refine AW_loop (fun n env L => n ≤ k ∧ ∃ (v5 : Int) (v6 : Int), env = [(0, (.sl (l57 v1))), (1, (.fn 112 [] [(.ptr 0 0), (.ptr 2 0)])), (7, (aI ((l57 v1).length : Int))), (8, (aI v5))] ∧ L = [.cells [(.ptr 1 0)], .cells [(aI v2), (aI v6)], .cells [(aI v4)]] ∧ F134_l0 n v1 v2 v4 v5 v6 = some (r1, r2)) k ⟨Nat.le_refl _, 0, v3, rfl, rfl, h⟩ ?_
    rintro n _ _ ⟨hn, v5, v6, rfl, rfl, h⟩
    cases n with
    | zero => rw [F134_l0] at h; cases h
    | succ k1 =>
      have h2 : k1 < (k + 1) := by omega
      rw [F134_l0] at h
      refine zs hT [0, 1, 7, 8, 9] [(0, (.sl (l57 v1))), (1, (.fn 112 [] [(.ptr 0 0), (.ptr 2 0)])), (7, (aI ((l57 v1).length : Int))), (8, (aI v5)), (9, (.bool (decide (v5 < ((l57 v1).length : Int)))))] ?_
      refine AW_seq ?_
      rcases bif_split h with ⟨h3, h⟩ | ⟨h3, h⟩
      · refine zT h3 ?_
        refine AE_skip ?_
        refine AE_seqN ?_
        refine AW_seq ?_
        refine AW_block ?_
        refine zs hT [0, 1, 5, 7, 8] [(0, (.sl (l57 v1))), (1, (.fn 112 [] [(.ptr 0 0), (.ptr 2 0)])), (5, (aI v5)), (7, (aI ((l57 v1).length : Int))), (8, (aI v5))] ?_
        refine AW_seq ?_
        obtain ⟨⟨v7, v8, v9, v10, v11, v12⟩, h4, h⟩ := bsm h
        try dsimp only at h
        obtain ⟨⟨v13, v14⟩, h5, h⟩ := bsm h
        try dsimp only at h
        refine AW_reg ?_
        refine zm hT 3 [0, 1, 5, 7, 8, 11, 12, 13] [(0, (.sl (l57 v1))), (1, (.fn 112 [] [(.ptr 0 0), (.ptr 2 0)])), (5, (aI v5)), (7, (aI ((l57 v1).length : Int))), (8, (aI v5)), (11, (.fn 112 [] [(.ptr 0 0), (.ptr 2 0)])), (12, (.sl (l57 v1))), (13, (aI v5))] ?_
        refine zO (jX hT 6 (i57 h4)) ?_
        refine zm hT 1 [0, 1, 5, 7, 8, 11, 15] [(0, (.sl (l57 v1))), (1, (.fn 112 [] [(.ptr 0 0), (.ptr 2 0)])), (5, (aI v5)), (7, (aI ((l57 v1).length : Int))), (8, (aI v5)), (11, (.fn 112 [] [(.ptr 0 0), (.ptr 2 0)])), (15, (.agg [(aI v7), (.str v8), (aI v9), (.str v10), (.sl (l57 v11)), (aI v12)]))] ?_
        refine zO (jC Go.Proofs.Try.func112 (Fn_in (L := [.cells [(.ptr 1 0)], .cells [(aI v2), (aI v6)], .cells [(aI v4)]]) (args' := [(.agg [(aI v7), (.str v8), (aI v9), (.str v10), (.sl (l57 v11)), (aI v12)]), (.ptr 0 0), (.ptr 2 0)]) (res' := (.bool v13)) (L'' := [.cells [(.ptr 1 0)], .cells [(aI v2), (aI v14)], .cells [(aI v4)]]) [0, 1, 2] (ih_F112 k1 h2 v7 v8 v9 v10 v11 v12 v2 v6 v4 v13 v14 h5) rfl (by decide) ⟨(by simp [AV.ren, AV.rens, AObj.ren, gname]), (by simp [AV.ren, AV.rens, AObj.ren, gname]), (by simp [AV.ren, AV.rens, AObj.ren, gname]), trivial⟩ (by simp [AV.low, AV.lows, AObj.low]) (by simp [AV.low, AV.lows, AObj.low]) (by kernel_rfl) (by simp [AV.ren, AV.rens, AObj.ren, gname, putBack]) (by simp [AV.ren, AV.rens, AObj.ren, gname, putBack]) (by simp [AV.ren, AV.rens, AObj.ren, gname, putBack]))) ?_
        refine zF ?_
        refine zK [0, 1, 5, 7, 8, 16] [(0, (.sl (l57 v1))), (1, (.fn 112 [] [(.ptr 0 0), (.ptr 2 0)])), (5, (aI v5)), (7, (aI ((l57 v1).length : Int))), (8, (aI v5)), (16, (.bool v13))] ?_
        refine AE_seqN ?_
        rcases bif_split h with ⟨h6, h⟩ | ⟨h6, h⟩
        · refine zT h6 ?_
          refine zs hT [4] [(4, (aI v5))] ?_
          refine AE_ret ?_
          refine AE_blkR ?_
          refine AE_seqR ?_
          refine AE_seqR ?_
          refine AE_blkR ?_
          refine AE_seqR ?_
          refine zK [4] [(4, (aI v5))] ?_
          simp only [Option.some.injEq, Prod.mk.injEq] at h
          obtain ⟨rfl, rfl⟩ := h
          exact zEnd
        · refine zN h6 ?_
          refine AE_skip ?_
          refine AE_blkN ?_
          refine AE_seqN ?_
          refine zr hT [0, 1, 7, 8] [(0, (.sl (l57 v1))), (1, (.fn 112 [] [(.ptr 0 0), (.ptr 2 0)])), (7, (aI ((l57 v1).length : Int))), (8, (aI (IntKind.wrap .i64 (v5 + 1))))] ?_
          refine zK [0, 1, 7, 8] [(0, (.sl (l57 v1))), (1, (.fn 112 [] [(.ptr 0 0), (.ptr 2 0)])), (7, (aI ((l57 v1).length : Int))), (8, (aI (IntKind.wrap .i64 (v5 + 1))))] ?_
          exact AE_done ⟨k1, by omega, by omega, (IntKind.wrap .i64 (v5 + 1)), v14, rfl, rfl, h⟩
      · refine zN h3 ?_
        refine AE_exit ?_
        refine AE_seqX ?_
        refine AE_seqX ?_
        refine AE_blkH ?_
        refine AE_seqN ?_
        refine zs hT [4] [(4, (aI (-1)))] ?_
        refine AE_ret ?_
        refine zK [4] [(4, (aI (-1)))] ?_
        simp only [Option.some.injEq, Prod.mk.injEq] at h
        obtain ⟨rfl, rfl⟩ := h
        exact zEnd

theorem F111_step (K0 : Nat) (ih_F112 : ∀ k, k < K0 → ∀ (v1 : Int) (v2 : ByteArray) (v3 : Int) (v4 : ByteArray) (v5 : (List T57)) (v6 : Int) (v7 : Int) (v8 : Int) (v9 : Int) (r1 : Bool) (r2 : Int), F112 k v1 v2 v3 v4 v5 v6 v7 v8 v9 = some (r1, r2) → Fn prog 112 [(.agg [(aI v1), (.str v2), (aI v3), (.str v4), (.sl (l57 v5)), (aI v6)]), (.ptr 0 0), (.ptr 2 0)] [.cells [(.ptr 1 0)], .cells [(aI v7), (aI v8)], .cells [(aI v9)]] (.bool r1) [.cells [(.ptr 1 0)], .cells [(aI v7), (aI r2)], .cells [(aI v9)]]) (ih_F134 : ∀ k, k < K0 → ∀ (v1 : (List T57)) (v2 : Int) (v3 : Int) (v4 : Int) (r1 : Int) (r2 : Int), F134 k v1 v2 v3 v4 = some (r1, r2) → Fn prog 134 [(.sl (l57 v1)), (.fn 112 [] [(.ptr 0 0), (.ptr 2 0)])] [.cells [(.ptr 1 0)], .cells [(aI v2), (aI v3)], .cells [(aI v4)]] (aI r1) [.cells [(.ptr 1 0)], .cells [(aI v2), (aI r2)], .cells [(aI v4)]]) (ih_F111 : ∀ k, k < K0 → ∀ (v1 : (List T57)) (v2 : Int) (v3 : Int) (v4 : Int) (r1 : Bool) (r2 : Int), F111 k v1 v2 v3 v4 = some (r1, r2) → Fn prog 111 [(.sl (l57 v1)), (.fn 112 [] [(.ptr 0 0), (.ptr 2 0)])] [.cells [(.ptr 1 0)], .cells [(aI v2), (aI v3)], .cells [(aI v4)]] (.bool r1) [.cells [(.ptr 1 0)], .cells [(aI v2), (aI r2)], .cells [(aI v4)]]) (ih_F61 : ∀ k, k < K0 → ∀ (v1 : Int) (v2 : ByteArray) (v3 : Int) (v4 : ByteArray) (v5 : (List T57)) (v6 : Int) (v7 : Int) (v8 : Int) (v9 : Int) (r1 : Bool) (r2 : Int), F61 k v1 v2 v3 v4 v5 v6 v7 v8 v9 = some (r1, r2) → Fn prog 61 [(.ptr 0 0), (.agg [(aI v1), (.str v2), (aI v3), (.str v4), (.sl (l57 v5)), (aI v6)]), (aI v7)] [.cells [(aI v8), (aI v9)]] (.bool r1) [.cells [(aI v8), (aI r2)]]) : ∀ (v1 : (List T57)) (v2 : Int) (v3 : Int) (v4 : Int) (r1 : Bool) (r2 : Int), F111 K0 v1 v2 v3 v4 = some (r1, r2) → Fn prog 111 [(.sl (l57 v1)), (.fn 112 [] [(.ptr 0 0), (.ptr 2 0)])] [.cells [(.ptr 1 0)], .cells [(aI v2), (aI v3)], .cells [(aI v4)]] (.bool r1) [.cells [(.ptr 1 0)], .cells [(aI v2), (aI r2)], .cells [(aI v4)]] := by
  intro v1 v2 v3 v4 r1 r2 h
  cases K0 with
  | zero => rw [F111] at h; cases h
  | succ k =>
    have hk : k < k + 1 := Nat.lt_succ_self k
    rw [F111] at h
    refine Fn_bodyK hT Go.Proofs.Try.func111 (c := Go.Proofs.Try.f111.body.getD .skip) (by kernel_rfl) (by kernel_rfl) (by kernel_rfl) ?_
    refine zs hT [0, 1] [(0, (.sl (l57 v1))), (1, (.fn 112 [] [(.ptr 0 0), (.ptr 2 0)]))] ?_
    refine AW_seq ?_
    obtain ⟨⟨v5, v6⟩, h1, h⟩ := bsm h
    try dsimp only at h
    refine AW_reg ?_
    refine zm hT 2 [5, 6] [(5, (.sl (l57 v1))), (6, (.fn 112 [] [(.ptr 0 0), (.ptr 2 0)]))] ?_
    refine zO (jC Go.Proofs.Try.func134 (Fn_in (L := [.cells [(.ptr 1 0)], .cells [(aI v2), (aI v3)], .cells [(aI v4)]]) (args' := [(.sl (l57 v1)), (.fn 112 [] [(.ptr 0 0), (.ptr 2 0)])]) (res' := (aI v5)) (L'' := [.cells [(.ptr 1 0)], .cells [(aI v2), (aI v6)], .cells [(aI v4)]]) [0, 1, 2] (ih_F134 k hk v1 v2 v3 v4 v5 v6 h1) rfl (by decide) ⟨(by simp [AV.ren, AV.rens, AObj.ren, gname]), (by simp [AV.ren, AV.rens, AObj.ren, gname]), (by simp [AV.ren, AV.rens, AObj.ren, gname]), trivial⟩ (by simp [AV.low, AV.lows, AObj.low]) (by simp [AV.low, AV.lows, AObj.low]) (by kernel_rfl) (by simp [AV.ren, AV.rens, AObj.ren, gname, putBack]) (by simp [AV.ren, AV.rens, AObj.ren, gname, putBack]) (by simp [AV.ren, AV.rens, AObj.ren, gname, putBack]))) ?_
    refine ze hT 2 [4] [(4, (.bool (decide (v5 ≥ 0))))] ?_
    refine AE_seqN ?_
    refine AE_ret ?_
    refine zK [4] [(4, (.bool (decide (v5 ≥ 0))))] ?_
    simp only [Option.some.injEq, Prod.mk.injEq] at h
    obtain ⟨rfl, rfl⟩ := h
    exact zEnd

theorem F61_step (K0 : Nat) (ih_F112 : ∀ k, k < K0 → ∀ (v1 : Int) (v2 : ByteArray) (v3 : Int) (v4 : ByteArray) (v5 : (List T57)) (v6 : Int) (v7 : Int) (v8 : Int) (v9 : Int) (r1 : Bool) (r2 : Int), F112 k v1 v2 v3 v4 v5 v6 v7 v8 v9 = some (r1, r2) → Fn prog 112 [(.agg [(aI v1), (.str v2), (aI v3), (.str v4), (.sl (l57 v5)), (aI v6)]), (.ptr 0 0), (.ptr 2 0)] [.cells [(.ptr 1 0)], .cells [(aI v7), (aI v8)], .cells [(aI v9)]] (.bool r1) [.cells [(.ptr 1 0)], .cells [(aI v7), (aI r2)], .cells [(aI v9)]]) (ih_F134 : ∀ k, k < K0 → ∀ (v1 : (List T57)) (v2 : Int) (v3 : Int) (v4 : Int) (r1 : Int) (r2 : Int), F134 k v1 v2 v3 v4 = some (r1, r2) → Fn prog 134 [(.sl (l57 v1)), (.fn 112 [] [(.ptr 0 0), (.ptr 2 0)])] [.cells [(.ptr 1 0)], .cells [(aI v2), (aI v3)], .cells [(aI v4)]] (aI r1) [.cells [(.ptr 1 0)], .cells [(aI v2), (aI r2)], .cells [(aI v4)]]) (ih_F111 : ∀ k, k < K0 → ∀ (v1 : (List T57)) (v2 : Int) (v3 : Int) (v4 : Int) (r1 : Bool) (r2 : Int), F111 k v1 v2 v3 v4 = some (r1, r2) → Fn prog 111 [(.sl (l57 v1)), (.fn 112 [] [(.ptr 0 0), (.ptr 2 0)])] [.cells [(.ptr 1 0)], .cells [(aI v2), (aI v3)], .cells [(aI v4)]] (.bool r1) [.cells [(.ptr 1 0)], .cells [(aI v2), (aI r2)], .cells [(aI v4)]]) (ih_F61 : ∀ k, k < K0 → ∀ (v1 : Int) (v2 : ByteArray) (v3 : Int) (v4 : ByteArray) (v5 : (List T57)) (v6 : Int) (v7 : Int) (v8 : Int) (v9 : Int) (r1 : Bool) (r2 : Int), F61 k v1 v2 v3 v4 v5 v6 v7 v8 v9 = some (r1, r2) → Fn prog 61 [(.ptr 0 0), (.agg [(aI v1), (.str v2), (aI v3), (.str v4), (.sl (l57 v5)), (aI v6)]), (aI v7)] [.cells [(aI v8), (aI v9)]] (.bool r1) [.cells [(aI v8), (aI r2)]]) : ∀ (v1 : Int) (v2 : ByteArray) (v3 : Int) (v4 : ByteArray) (v5 : (List T57)) (v6 : Int) (v7 : Int) (v8 : Int) (v9 : Int) (r1 : Bool) (r2 : Int), F61 K0 v1 v2 v3 v4 v5 v6 v7 v8 v9 = some (r1, r2) → Fn prog 61 [(.ptr 0 0), (.agg [(aI v1), (.str v2), (aI v3), (.str v4), (.sl (l57 v5)), (aI v6)]), (aI v7)] [.cells [(aI v8), (aI v9)]] (.bool r1) [.cells [(aI v8), (aI r2)]] := by
  intro v1 v2 v3 v4 v5 v6 v7 v8 v9 r1 r2 h
  cases K0 with
  | zero => rw [F61] at h; cases h
  | succ k =>
    have hk : k < k + 1 := Nat.lt_succ_self k
    rw [F61] at h
    refine Fn_bodyK hT Go.Proofs.Try.func61 (c := Go.Proofs.Try.f61.body.getD .skip) (by kernel_rfl) (by kernel_rfl) (by kernel_rfl) ?_
    refine zS hT [3, 4, 5] [(3, (.ptr 1 0)), (4, (.ptr 2 0)), (5, (.ptr 3 0))] [.cells [(aI v8), (aI v9)], .cells [(.ptr 0 0)], .cells [(aI v1), (.str v2), (aI v3), (.str v4), (.sl (l57 v5)), (aI v6)], .cells [(aI v7)]] ?_
    refine AW_seq ?_
    refine zS hT [3, 4, 5] [(3, (.ptr 1 0)), (4, (.ptr 2 0)), (5, (.ptr 3 0))] [.cells [(aI v8), (aI (IntKind.wrap .i64 (v9 + 1)))], .cells [(.ptr 0 0)], .cells [(aI v1), (.str v2), (aI v3), (.str v4), (.sl (l57 v5)), (aI v6)], .cells [(aI v7)]] ?_
    refine AW_join (fun env L => ∃ (v10 : Bool), env = [(3, (.ptr 1 0)), (4, (.ptr 2 0)), (5, (.ptr 3 0)), (24, (.bool v10))] ∧ L = [.cells [(aI v8), (aI (IntKind.wrap .i64 (v9 + 1)))], .cells [(.ptr 0 0)], .cells [(aI v1), (.str v2), (aI v3), (.str v4), (.sl (l57 v5)), (aI v6)], .cells [(aI v7)]] ∧ ∃ n, n ≤ k ∧ F61_j0 n v8 v9 v1 v2 v3 v4 v5 v7 v10 = some (r1, r2)) ?_ ?_
    · rcases bif_split h with ⟨h1, h⟩ | ⟨h1, h⟩
      · refine AW_reg ?_
        refine zm hT 5 [3, 4, 5, 20] [(3, (.ptr 1 0)), (4, (.ptr 2 0)), (5, (.ptr 3 0)), (20, (.bool (decide ((IntKind.wrap .i64 (v9 + 1)) > 8192))))] ?_
        refine zO (jQ hT h1) ?_
        refine ze hT 3 [3, 4, 5, 24] [(3, (.ptr 1 0)), (4, (.ptr 2 0)), (5, (.ptr 3 0)), (24, (.bool true))] ?_
        refine zK [3, 4, 5, 24] [(3, (.ptr 1 0)), (4, (.ptr 2 0)), (5, (.ptr 3 0)), (24, (.bool true))] ?_
        exact AE_done ⟨true, rfl, rfl, k, by omega, h⟩
      · refine AW_reg ?_
        refine zm hT 5 [3, 4, 5, 20] [(3, (.ptr 1 0)), (4, (.ptr 2 0)), (5, (.ptr 3 0)), (20, (.bool (decide ((IntKind.wrap .i64 (v9 + 1)) > 8192))))] ?_
        refine zO (jQ hT h1) ?_
        refine ze hT 3 [3, 4, 5, 24] [(3, (.ptr 1 0)), (4, (.ptr 2 0)), (5, (.ptr 3 0)), (24, (.bool (decide (v7 < 1))))] ?_
        refine zK [3, 4, 5, 24] [(3, (.ptr 1 0)), (4, (.ptr 2 0)), (5, (.ptr 3 0)), (24, (.bool (decide (v7 < 1))))] ?_
        exact AE_done ⟨(decide (v7 < 1)), rfl, rfl, k, by omega, h⟩
    · rintro _ _ ⟨v10, rfl, rfl, n, hn, h⟩
      obtain _ | k2 := n
      · rw [F61_j0] at h; cases h
      have h3 : k2 < (k + 1) := by omega
      rw [F61_j0] at h
      rcases bif_split h with ⟨h4, h⟩ | ⟨h4, h⟩
      · refine zT h4 ?_
        refine zs hT [6] [(6, (.bool false))] ?_
        refine AE_ret ?_
        refine AE_seqR ?_
        refine zK [6] [(6, (.bool false))] ?_
        simp only [Option.some.injEq, Prod.mk.injEq] at h
        obtain ⟨rfl, rfl⟩ := h
        exact zEnd
      · refine zN h4 ?_
        refine AE_skip ?_
        refine AE_seqN ?_
        refine zs hT [3, 4, 5, 7] [(3, (.ptr 1 0)), (4, (.ptr 2 0)), (5, (.ptr 3 0)), (7, (aI 0))] ?_
        refine zs hT [3, 4, 5, 7, 8] [(3, (.ptr 1 0)), (4, (.ptr 2 0)), (5, (.ptr 3 0)), (7, (aI 0)), (8, (.bool false))] ?_
        refine AW_join (fun env L => ∃ (v11 : Int) (v12 : Bool), env = [(3, (.ptr 1 0)), (4, (.ptr 2 0)), (5, (.ptr 3 0)), (7, (aI v11)), (8, (.bool v12))] ∧ L = [.cells [(aI v8), (aI (IntKind.wrap .i64 (v9 + 1)))], .cells [(.ptr 0 0)], .cells [(aI v1), (.str v2), (aI v3), (.str v4), (.sl (l57 v5)), (aI v6)], .cells [(aI v7)]] ∧ ∃ n, n ≤ k2 ∧ F61_j1 n v8 v9 v5 v7 v11 v12 = some (r1, r2)) ?_ ?_
        · refine zs hT [3, 4, 5, 7, 8, 26] [(3, (.ptr 1 0)), (4, (.ptr 2 0)), (5, (.ptr 3 0)), (7, (aI 0)), (8, (.bool false)), (26, (aI v1))] ?_
          refine AW_block ?_
          refine zs hT [3, 4, 5, 7, 8, 26, 27] [(3, (.ptr 1 0)), (4, (.ptr 2 0)), (5, (.ptr 3 0)), (7, (aI 0)), (8, (.bool false)), (26, (aI v1)), (27, (.bool (v1 == 1)))] ?_
          rcases bif_split h with ⟨h5, h⟩ | ⟨h5, h⟩
          · refine zT h5 ?_
            rcases bif_split h with ⟨h6, h⟩ | ⟨h6, h⟩
            · rcases bif_split h with ⟨h7, h⟩ | ⟨h7, h⟩
              · rcases bif_split h with ⟨h8, h⟩ | ⟨h8, h⟩
                · refine AW_reg ?_
                  refine zm hT 3 [3, 4, 5, 7, 8, 31] [(3, (.ptr 1 0)), (4, (.ptr 2 0)), (5, (.ptr 3 0)), (7, (aI 0)), (8, (.bool false)), (31, (.bool (v2.toList == (ByteArray.mk #[]).toList)))] ?_
                  refine zO (jQ hT h6) ?_
                  refine zm hT 4 [3, 4, 5, 7, 8, 36] [(3, (.ptr 1 0)), (4, (.ptr 2 0)), (5, (.ptr 3 0)), (7, (aI 0)), (8, (.bool false)), (36, (.bool (v4.toList == (ByteArray.mk #[]).toList)))] ?_
                  refine zO (jQ hT h7) ?_
                  refine zm hT 4 [3, 4, 5, 7, 8, 41] [(3, (.ptr 1 0)), (4, (.ptr 2 0)), (5, (.ptr 3 0)), (7, (aI 0)), (8, (.bool false)), (41, (.bool (decide (v3 ≥ 0))))] ?_
                  refine zO (jQ hT h8) ?_
                  refine ze hT 5 [3, 4, 5, 7, 8] [(3, (.ptr 1 0)), (4, (.ptr 2 0)), (5, (.ptr 3 0)), (7, (aI 0)), (8, (.bool (decide (v3 ≤ 65535))))] ?_
                  refine AE_blkN ?_
                  refine zK [3, 4, 5, 7, 8] [(3, (.ptr 1 0)), (4, (.ptr 2 0)), (5, (.ptr 3 0)), (7, (aI 0)), (8, (.bool (decide (v3 ≤ 65535))))] ?_
                  exact AE_done ⟨0, (decide (v3 ≤ 65535)), rfl, rfl, k2, by omega, h⟩
                · refine AW_reg ?_
                  refine zm hT 3 [3, 4, 5, 7, 8, 31] [(3, (.ptr 1 0)), (4, (.ptr 2 0)), (5, (.ptr 3 0)), (7, (aI 0)), (8, (.bool false)), (31, (.bool (v2.toList == (ByteArray.mk #[]).toList)))] ?_
                  refine zO (jQ hT h6) ?_
                  refine zm hT 4 [3, 4, 5, 7, 8, 36] [(3, (.ptr 1 0)), (4, (.ptr 2 0)), (5, (.ptr 3 0)), (7, (aI 0)), (8, (.bool false)), (36, (.bool (v4.toList == (ByteArray.mk #[]).toList)))] ?_
                  refine zO (jQ hT h7) ?_
                  refine zm hT 4 [3, 4, 5, 7, 8, 41] [(3, (.ptr 1 0)), (4, (.ptr 2 0)), (5, (.ptr 3 0)), (7, (aI 0)), (8, (.bool false)), (41, (.bool (decide (v3 ≥ 0))))] ?_
                  refine zO (jQ hT h8) ?_
                  refine ze hT 5 [3, 4, 5, 7, 8] [(3, (.ptr 1 0)), (4, (.ptr 2 0)), (5, (.ptr 3 0)), (7, (aI 0)), (8, (.bool false))] ?_
                  refine AE_blkN ?_
                  refine zK [3, 4, 5, 7, 8] [(3, (.ptr 1 0)), (4, (.ptr 2 0)), (5, (.ptr 3 0)), (7, (aI 0)), (8, (.bool false))] ?_
                  exact AE_done ⟨0, false, rfl, rfl, k2, by omega, h⟩
              · refine AW_reg ?_
                refine zm hT 3 [3, 4, 5, 7, 8, 31] [(3, (.ptr 1 0)), (4, (.ptr 2 0)), (5, (.ptr 3 0)), (7, (aI 0)), (8, (.bool false)), (31, (.bool (v2.toList == (ByteArray.mk #[]).toList)))] ?_
                refine zO (jQ hT h6) ?_
                refine zm hT 4 [3, 4, 5, 7, 8, 36] [(3, (.ptr 1 0)), (4, (.ptr 2 0)), (5, (.ptr 3 0)), (7, (aI 0)), (8, (.bool false)), (36, (.bool (v4.toList == (ByteArray.mk #[]).toList)))] ?_
                refine zO (jQ hT h7) ?_
                refine ze hT 10 [3, 4, 5, 7, 8] [(3, (.ptr 1 0)), (4, (.ptr 2 0)), (5, (.ptr 3 0)), (7, (aI 0)), (8, (.bool false))] ?_
                refine AE_blkN ?_
                refine zK [3, 4, 5, 7, 8] [(3, (.ptr 1 0)), (4, (.ptr 2 0)), (5, (.ptr 3 0)), (7, (aI 0)), (8, (.bool false))] ?_
                exact AE_done ⟨0, false, rfl, rfl, k2, by omega, h⟩
            · refine AW_reg ?_
              refine zm hT 3 [3, 4, 5, 7, 8, 31] [(3, (.ptr 1 0)), (4, (.ptr 2 0)), (5, (.ptr 3 0)), (7, (aI 0)), (8, (.bool false)), (31, (.bool (v2.toList == (ByteArray.mk #[]).toList)))] ?_
              refine zO (jQ hT h6) ?_
              refine ze hT 15 [3, 4, 5, 7, 8] [(3, (.ptr 1 0)), (4, (.ptr 2 0)), (5, (.ptr 3 0)), (7, (aI 0)), (8, (.bool false))] ?_
              refine AE_blkN ?_
              refine zK [3, 4, 5, 7, 8] [(3, (.ptr 1 0)), (4, (.ptr 2 0)), (5, (.ptr 3 0)), (7, (aI 0)), (8, (.bool false))] ?_
              exact AE_done ⟨0, false, rfl, rfl, k2, by omega, h⟩
          · refine zN h5 ?_
            refine zs hT [3, 4, 5, 7, 8, 26, 47] [(3, (.ptr 1 0)), (4, (.ptr 2 0)), (5, (.ptr 3 0)), (7, (aI 0)), (8, (.bool false)), (26, (aI v1)), (47, (.bool (v1 == 2)))] ?_
            rcases bif_split h with ⟨h9, h⟩ | ⟨h9, h⟩
            · refine zT h9 ?_
              rcases bif_split h with ⟨h10, h⟩ | ⟨h10, h⟩
              · rcases bif_split h with ⟨h11, h⟩ | ⟨h11, h⟩
                · obtain ⟨v13, h12, h⟩ := bsm h
                  try dsimp only at h
                  refine AW_reg ?_
                  refine zm hT 3 [3, 4, 5, 7, 8, 51] [(3, (.ptr 1 0)), (4, (.ptr 2 0)), (5, (.ptr 3 0)), (7, (aI 0)), (8, (.bool false)), (51, (.bool (v2.toList == (ByteArray.mk #[]).toList)))] ?_
                  refine zO (jQ hT h10) ?_
                  refine zm hT 4 [3, 4, 5, 7, 8, 56] [(3, (.ptr 1 0)), (4, (.ptr 2 0)), (5, (.ptr 3 0)), (7, (aI 0)), (8, (.bool false)), (56, (.bool (v3 == 0)))] ?_
                  refine zO (jQ hT h11) ?_
                  refine zm hT 2 [3, 4, 5, 7, 8, 57, 59] [(3, (.ptr 1 0)), (4, (.ptr 2 0)), (5, (.ptr 3 0)), (7, (aI 0)), (8, (.bool false)), (57, (.bool true)), (59, (.str v4))] ?_
                  refine zO (jP Go.Proofs.Try.func75 (F75_ok k2 v4 v13 h12)) ?_
                  refine ze hT 2 [3, 4, 5, 7, 8] [(3, (.ptr 1 0)), (4, (.ptr 2 0)), (5, (.ptr 3 0)), (7, (aI 0)), (8, (.bool v13))] ?_
                  refine AE_blkN ?_
                  refine zK [3, 4, 5, 7, 8] [(3, (.ptr 1 0)), (4, (.ptr 2 0)), (5, (.ptr 3 0)), (7, (aI 0)), (8, (.bool v13))] ?_
                  exact AE_done ⟨0, v13, rfl, rfl, k2, by omega, h⟩
                · refine AW_reg ?_
                  refine zm hT 3 [3, 4, 5, 7, 8, 51] [(3, (.ptr 1 0)), (4, (.ptr 2 0)), (5, (.ptr 3 0)), (7, (aI 0)), (8, (.bool false)), (51, (.bool (v2.toList == (ByteArray.mk #[]).toList)))] ?_
                  refine zO (jQ hT h10) ?_
                  refine zm hT 4 [3, 4, 5, 7, 8, 56] [(3, (.ptr 1 0)), (4, (.ptr 2 0)), (5, (.ptr 3 0)), (7, (aI 0)), (8, (.bool false)), (56, (.bool (v3 == 0)))] ?_
                  refine zO (jQ hT h11) ?_
                  refine ze hT 5 [3, 4, 5, 7, 8] [(3, (.ptr 1 0)), (4, (.ptr 2 0)), (5, (.ptr 3 0)), (7, (aI 0)), (8, (.bool false))] ?_
                  refine AE_blkN ?_
                  refine zK [3, 4, 5, 7, 8] [(3, (.ptr 1 0)), (4, (.ptr 2 0)), (5, (.ptr 3 0)), (7, (aI 0)), (8, (.bool false))] ?_
                  exact AE_done ⟨0, false, rfl, rfl, k2, by omega, h⟩
              · refine AW_reg ?_
                refine zm hT 3 [3, 4, 5, 7, 8, 51] [(3, (.ptr 1 0)), (4, (.ptr 2 0)), (5, (.ptr 3 0)), (7, (aI 0)), (8, (.bool false)), (51, (.bool (v2.toList == (ByteArray.mk #[]).toList)))] ?_
                refine zO (jQ hT h10) ?_
                refine ze hT 10 [3, 4, 5, 7, 8] [(3, (.ptr 1 0)), (4, (.ptr 2 0)), (5, (.ptr 3 0)), (7, (aI 0)), (8, (.bool false))] ?_
                refine AE_blkN ?_
                refine zK [3, 4, 5, 7, 8] [(3, (.ptr 1 0)), (4, (.ptr 2 0)), (5, (.ptr 3 0)), (7, (aI 0)), (8, (.bool false))] ?_
                exact AE_done ⟨0, false, rfl, rfl, k2, by omega, h⟩
            · refine zN h9 ?_
              refine zs hT [3, 4, 5, 7, 8, 26, 62] [(3, (.ptr 1 0)), (4, (.ptr 2 0)), (5, (.ptr 3 0)), (7, (aI 0)), (8, (.bool false)), (26, (aI v1)), (62, (.bool (v1 == 3)))] ?_
              rcases bif_split h with ⟨h13, h⟩ | ⟨h13, h⟩
              · refine zT h13 ?_
                refine zs hT [3, 4, 5, 7] [(3, (.ptr 1 0)), (4, (.ptr 2 0)), (5, (.ptr 3 0)), (7, (aI 1))] ?_
                rcases bif_split h with ⟨h14, h⟩ | ⟨h14, h⟩
                · rcases bif_split h with ⟨h15, h⟩ | ⟨h15, h⟩
                  · refine AW_reg ?_
                    refine zm hT 3 [3, 4, 5, 7, 66] [(3, (.ptr 1 0)), (4, (.ptr 2 0)), (5, (.ptr 3 0)), (7, (aI 1)), (66, (.bool (v2.toList == (ByteArray.mk #[45]).toList)))] ?_
                    refine zO (jQ hT h14) ?_
                    refine zm hT 14 [3, 4, 5, 7, 81] [(3, (.ptr 1 0)), (4, (.ptr 2 0)), (5, (.ptr 3 0)), (7, (aI 1)), (81, (.bool (v3 == 0)))] ?_
                    refine zO (jQ hT h15) ?_
                    refine ze hT 5 [3, 4, 5, 7, 8] [(3, (.ptr 1 0)), (4, (.ptr 2 0)), (5, (.ptr 3 0)), (7, (aI 1)), (8, (.bool (v4.toList == (ByteArray.mk #[]).toList)))] ?_
                    refine AE_blkN ?_
                    refine zK [3, 4, 5, 7, 8] [(3, (.ptr 1 0)), (4, (.ptr 2 0)), (5, (.ptr 3 0)), (7, (aI 1)), (8, (.bool (v4.toList == (ByteArray.mk #[]).toList)))] ?_
                    exact AE_done ⟨1, (v4.toList == (ByteArray.mk #[]).toList), rfl, rfl, k2, by omega, h⟩
                  · refine AW_reg ?_
                    refine zm hT 3 [3, 4, 5, 7, 66] [(3, (.ptr 1 0)), (4, (.ptr 2 0)), (5, (.ptr 3 0)), (7, (aI 1)), (66, (.bool (v2.toList == (ByteArray.mk #[45]).toList)))] ?_
                    refine zO (jQ hT h14) ?_
                    refine zm hT 14 [3, 4, 5, 7, 81] [(3, (.ptr 1 0)), (4, (.ptr 2 0)), (5, (.ptr 3 0)), (7, (aI 1)), (81, (.bool (v3 == 0)))] ?_
                    refine zO (jQ hT h15) ?_
                    refine ze hT 5 [3, 4, 5, 7, 8] [(3, (.ptr 1 0)), (4, (.ptr 2 0)), (5, (.ptr 3 0)), (7, (aI 1)), (8, (.bool false))] ?_
                    refine AE_blkN ?_
                    refine zK [3, 4, 5, 7, 8] [(3, (.ptr 1 0)), (4, (.ptr 2 0)), (5, (.ptr 3 0)), (7, (aI 1)), (8, (.bool false))] ?_
                    exact AE_done ⟨1, false, rfl, rfl, k2, by omega, h⟩
                · rcases bif_split h with ⟨h16, h⟩ | ⟨h16, h⟩
                  · rcases bif_split h with ⟨h17, h⟩ | ⟨h17, h⟩
                    · refine AW_reg ?_
                      refine zm hT 3 [3, 4, 5, 7, 66] [(3, (.ptr 1 0)), (4, (.ptr 2 0)), (5, (.ptr 3 0)), (7, (aI 1)), (66, (.bool (v2.toList == (ByteArray.mk #[45]).toList)))] ?_
                      refine zO (jQ hT h14) ?_
                      refine zm hT 4 [3, 4, 5, 7, 71] [(3, (.ptr 1 0)), (4, (.ptr 2 0)), (5, (.ptr 3 0)), (7, (aI 1)), (71, (.bool (v2.toList == (ByteArray.mk #[126]).toList)))] ?_
                      refine zO (jQ hT h16) ?_
                      refine zm hT 9 [3, 4, 5, 7, 81] [(3, (.ptr 1 0)), (4, (.ptr 2 0)), (5, (.ptr 3 0)), (7, (aI 1)), (81, (.bool (v3 == 0)))] ?_
                      refine zO (jQ hT h17) ?_
                      refine ze hT 5 [3, 4, 5, 7, 8] [(3, (.ptr 1 0)), (4, (.ptr 2 0)), (5, (.ptr 3 0)), (7, (aI 1)), (8, (.bool (v4.toList == (ByteArray.mk #[]).toList)))] ?_
                      refine AE_blkN ?_
                      refine zK [3, 4, 5, 7, 8] [(3, (.ptr 1 0)), (4, (.ptr 2 0)), (5, (.ptr 3 0)), (7, (aI 1)), (8, (.bool (v4.toList == (ByteArray.mk #[]).toList)))] ?_
                      exact AE_done ⟨1, (v4.toList == (ByteArray.mk #[]).toList), rfl, rfl, k2, by omega, h⟩
                    · refine AW_reg ?_
                      refine zm hT 3 [3, 4, 5, 7, 66] [(3, (.ptr 1 0)), (4, (.ptr 2 0)), (5, (.ptr 3 0)), (7, (aI 1)), (66, (.bool (v2.toList == (ByteArray.mk #[45]).toList)))] ?_
                      refine zO (jQ hT h14) ?_
                      refine zm hT 4 [3, 4, 5, 7, 71] [(3, (.ptr 1 0)), (4, (.ptr 2 0)), (5, (.ptr 3 0)), (7, (aI 1)), (71, (.bool (v2.toList == (ByteArray.mk #[126]).toList)))] ?_
                      refine zO (jQ hT h16) ?_
                      refine zm hT 9 [3, 4, 5, 7, 81] [(3, (.ptr 1 0)), (4, (.ptr 2 0)), (5, (.ptr 3 0)), (7, (aI 1)), (81, (.bool (v3 == 0)))] ?_
                      refine zO (jQ hT h17) ?_
                      refine ze hT 5 [3, 4, 5, 7, 8] [(3, (.ptr 1 0)), (4, (.ptr 2 0)), (5, (.ptr 3 0)), (7, (aI 1)), (8, (.bool false))] ?_
                      refine AE_blkN ?_
                      refine zK [3, 4, 5, 7, 8] [(3, (.ptr 1 0)), (4, (.ptr 2 0)), (5, (.ptr 3 0)), (7, (aI 1)), (8, (.bool false))] ?_
                      exact AE_done ⟨1, false, rfl, rfl, k2, by omega, h⟩
                  · rcases bif_split h with ⟨h18, h⟩ | ⟨h18, h⟩
                    · rcases bif_split h with ⟨h19, h⟩ | ⟨h19, h⟩
                      · refine AW_reg ?_
                        refine zm hT 3 [3, 4, 5, 7, 66] [(3, (.ptr 1 0)), (4, (.ptr 2 0)), (5, (.ptr 3 0)), (7, (aI 1)), (66, (.bool (v2.toList == (ByteArray.mk #[45]).toList)))] ?_
                        refine zO (jQ hT h14) ?_
                        refine zm hT 4 [3, 4, 5, 7, 71] [(3, (.ptr 1 0)), (4, (.ptr 2 0)), (5, (.ptr 3 0)), (7, (aI 1)), (71, (.bool (v2.toList == (ByteArray.mk #[126]).toList)))] ?_
                        refine zO (jQ hT h16) ?_
                        refine zm hT 4 [3, 4, 5, 7, 76] [(3, (.ptr 1 0)), (4, (.ptr 2 0)), (5, (.ptr 3 0)), (7, (aI 1)), (76, (.bool (v2.toList == (ByteArray.mk #[33]).toList)))] ?_
                        refine zO (jQ hT h18) ?_
                        refine zm hT 4 [3, 4, 5, 7, 81] [(3, (.ptr 1 0)), (4, (.ptr 2 0)), (5, (.ptr 3 0)), (7, (aI 1)), (81, (.bool (v3 == 0)))] ?_
                        refine zO (jQ hT h19) ?_
                        refine ze hT 5 [3, 4, 5, 7, 8] [(3, (.ptr 1 0)), (4, (.ptr 2 0)), (5, (.ptr 3 0)), (7, (aI 1)), (8, (.bool (v4.toList == (ByteArray.mk #[]).toList)))] ?_
                        refine AE_blkN ?_
                        refine zK [3, 4, 5, 7, 8] [(3, (.ptr 1 0)), (4, (.ptr 2 0)), (5, (.ptr 3 0)), (7, (aI 1)), (8, (.bool (v4.toList == (ByteArray.mk #[]).toList)))] ?_
                        exact AE_done ⟨1, (v4.toList == (ByteArray.mk #[]).toList), rfl, rfl, k2, by omega, h⟩
                      · refine AW_reg ?_
                        refine zm hT 3 [3, 4, 5, 7, 66] [(3, (.ptr 1 0)), (4, (.ptr 2 0)), (5, (.ptr 3 0)), (7, (aI 1)), (66, (.bool (v2.toList == (ByteArray.mk #[45]).toList)))] ?_
                        refine zO (jQ hT h14) ?_
                        refine zm hT 4 [3, 4, 5, 7, 71] [(3, (.ptr 1 0)), (4, (.ptr 2 0)), (5, (.ptr 3 0)), (7, (aI 1)), (71, (.bool (v2.toList == (ByteArray.mk #[126]).toList)))] ?_
                        refine zO (jQ hT h16) ?_
                        refine zm hT 4 [3, 4, 5, 7, 76] [(3, (.ptr 1 0)), (4, (.ptr 2 0)), (5, (.ptr 3 0)), (7, (aI 1)), (76, (.bool (v2.toList == (ByteArray.mk #[33]).toList)))] ?_
                        refine zO (jQ hT h18) ?_
                        refine zm hT 4 [3, 4, 5, 7, 81] [(3, (.ptr 1 0)), (4, (.ptr 2 0)), (5, (.ptr 3 0)), (7, (aI 1)), (81, (.bool (v3 == 0)))] ?_
                        refine zO (jQ hT h19) ?_
                        refine ze hT 5 [3, 4, 5, 7, 8] [(3, (.ptr 1 0)), (4, (.ptr 2 0)), (5, (.ptr 3 0)), (7, (aI 1)), (8, (.bool false))] ?_
                        refine AE_blkN ?_
                        refine zK [3, 4, 5, 7, 8] [(3, (.ptr 1 0)), (4, (.ptr 2 0)), (5, (.ptr 3 0)), (7, (aI 1)), (8, (.bool false))] ?_
                        exact AE_done ⟨1, false, rfl, rfl, k2, by omega, h⟩
                    · refine AW_reg ?_
                      refine zm hT 3 [3, 4, 5, 7, 66] [(3, (.ptr 1 0)), (4, (.ptr 2 0)), (5, (.ptr 3 0)), (7, (aI 1)), (66, (.bool (v2.toList == (ByteArray.mk #[45]).toList)))] ?_
                      refine zO (jQ hT h14) ?_
                      refine zm hT 4 [3, 4, 5, 7, 71] [(3, (.ptr 1 0)), (4, (.ptr 2 0)), (5, (.ptr 3 0)), (7, (aI 1)), (71, (.bool (v2.toList == (ByteArray.mk #[126]).toList)))] ?_
                      refine zO (jQ hT h16) ?_
                      refine zm hT 4 [3, 4, 5, 7, 76] [(3, (.ptr 1 0)), (4, (.ptr 2 0)), (5, (.ptr 3 0)), (7, (aI 1)), (76, (.bool (v2.toList == (ByteArray.mk #[33]).toList)))] ?_
                      refine zO (jQ hT h18) ?_
                      refine ze hT 10 [3, 4, 5, 7, 8] [(3, (.ptr 1 0)), (4, (.ptr 2 0)), (5, (.ptr 3 0)), (7, (aI 1)), (8, (.bool false))] ?_
                      refine AE_blkN ?_
                      refine zK [3, 4, 5, 7, 8] [(3, (.ptr 1 0)), (4, (.ptr 2 0)), (5, (.ptr 3 0)), (7, (aI 1)), (8, (.bool false))] ?_
                      exact AE_done ⟨1, false, rfl, rfl, k2, by omega, h⟩
              · refine zN h13 ?_
                refine zs hT [3, 4, 5, 7, 8, 87] [(3, (.ptr 1 0)), (4, (.ptr 2 0)), (5, (.ptr 3 0)), (7, (aI 0)), (8, (.bool false)), (87, (.bool (v1 == 4)))] ?_
                rcases bif_split h with ⟨h20, h⟩ | ⟨h20, h⟩
                · refine zT h20 ?_
                  refine zs hT [3, 4, 5, 7] [(3, (.ptr 1 0)), (4, (.ptr 2 0)), (5, (.ptr 3 0)), (7, (aI 2))] ?_
                  obtain ⟨v14, h21, h⟩ := bsm h
                  try dsimp only at h
                  rcases bif_split h with ⟨h22, h⟩ | ⟨h22, h⟩
                  · rcases bif_split h with ⟨h23, h⟩ | ⟨h23, h⟩
                    · refine AW_reg ?_
                      refine zm hT 2 [3, 4, 5, 7, 90] [(3, (.ptr 1 0)), (4, (.ptr 2 0)), (5, (.ptr 3 0)), (7, (aI 2)), (90, (.str v2))] ?_
                      refine zO (jP Go.Proofs.Try.func110 (F110_ok k2 v2 v14 h21)) ?_
                      refine zm hT 1 [3, 4, 5, 7, 92] [(3, (.ptr 1 0)), (4, (.ptr 2 0)), (5, (.ptr 3 0)), (7, (aI 2)), (92, (.bool (decide (v14 > 0))))] ?_
                      refine zO (jQ hT h22) ?_
                      refine zm hT 4 [3, 4, 5, 7, 97] [(3, (.ptr 1 0)), (4, (.ptr 2 0)), (5, (.ptr 3 0)), (7, (aI 2)), (97, (.bool (v3 == 0)))] ?_
                      refine zO (jQ hT h23) ?_
                      refine ze hT 5 [3, 4, 5, 7, 8] [(3, (.ptr 1 0)), (4, (.ptr 2 0)), (5, (.ptr 3 0)), (7, (aI 2)), (8, (.bool (v4.toList == (ByteArray.mk #[]).toList)))] ?_
                      refine AE_blkN ?_
                      refine zK [3, 4, 5, 7, 8] [(3, (.ptr 1 0)), (4, (.ptr 2 0)), (5, (.ptr 3 0)), (7, (aI 2)), (8, (.bool (v4.toList == (ByteArray.mk #[]).toList)))] ?_
                      exact AE_done ⟨2, (v4.toList == (ByteArray.mk #[]).toList), rfl, rfl, k2, by omega, h⟩
                    · refine AW_reg ?_
                      refine zm hT 2 [3, 4, 5, 7, 90] [(3, (.ptr 1 0)), (4, (.ptr 2 0)), (5, (.ptr 3 0)), (7, (aI 2)), (90, (.str v2))] ?_
                      refine zO (jP Go.Proofs.Try.func110 (F110_ok k2 v2 v14 h21)) ?_
                      refine zm hT 1 [3, 4, 5, 7, 92] [(3, (.ptr 1 0)), (4, (.ptr 2 0)), (5, (.ptr 3 0)), (7, (aI 2)), (92, (.bool (decide (v14 > 0))))] ?_
                      refine zO (jQ hT h22) ?_
                      refine zm hT 4 [3, 4, 5, 7, 97] [(3, (.ptr 1 0)), (4, (.ptr 2 0)), (5, (.ptr 3 0)), (7, (aI 2)), (97, (.bool (v3 == 0)))] ?_
                      refine zO (jQ hT h23) ?_
                      refine ze hT 5 [3, 4, 5, 7, 8] [(3, (.ptr 1 0)), (4, (.ptr 2 0)), (5, (.ptr 3 0)), (7, (aI 2)), (8, (.bool false))] ?_
                      refine AE_blkN ?_
                      refine zK [3, 4, 5, 7, 8] [(3, (.ptr 1 0)), (4, (.ptr 2 0)), (5, (.ptr 3 0)), (7, (aI 2)), (8, (.bool false))] ?_
                      exact AE_done ⟨2, false, rfl, rfl, k2, by omega, h⟩
                  · refine AW_reg ?_
                    refine zm hT 2 [3, 4, 5, 7, 90] [(3, (.ptr 1 0)), (4, (.ptr 2 0)), (5, (.ptr 3 0)), (7, (aI 2)), (90, (.str v2))] ?_
                    refine zO (jP Go.Proofs.Try.func110 (F110_ok k2 v2 v14 h21)) ?_
                    refine zm hT 1 [3, 4, 5, 7, 92] [(3, (.ptr 1 0)), (4, (.ptr 2 0)), (5, (.ptr 3 0)), (7, (aI 2)), (92, (.bool (decide (v14 > 0))))] ?_
                    refine zO (jQ hT h22) ?_
                    refine ze hT 10 [3, 4, 5, 7, 8] [(3, (.ptr 1 0)), (4, (.ptr 2 0)), (5, (.ptr 3 0)), (7, (aI 2)), (8, (.bool false))] ?_
                    refine AE_blkN ?_
                    refine zK [3, 4, 5, 7, 8] [(3, (.ptr 1 0)), (4, (.ptr 2 0)), (5, (.ptr 3 0)), (7, (aI 2)), (8, (.bool false))] ?_
                    exact AE_done ⟨2, false, rfl, rfl, k2, by omega, h⟩
                · refine zN h20 ?_
                  refine AE_skip ?_
                  refine AE_blkN ?_
                  refine zK [3, 4, 5, 7, 8] [(3, (.ptr 1 0)), (4, (.ptr 2 0)), (5, (.ptr 3 0)), (7, (aI 0)), (8, (.bool false))] ?_
                  exact AE_done ⟨0, false, rfl, rfl, k2, by omega, h⟩
        · rintro _ _ ⟨v11, v12, rfl, rfl, n, hn, h⟩
          obtain _ | k24 := n
          · rw [F61_j1] at h; cases h
          have h25 : k24 < (k + 1) := by omega
          rw [F61_j1] at h
          refine AW_seq ?_
          rcases bif_split h with ⟨h26, h⟩ | ⟨h26, h⟩
          · rcases bif_split h with ⟨h27, h⟩ | ⟨h27, h⟩
            · obtain ⟨⟨v15, v16⟩, h28, h⟩ := bsm h
              try dsimp only at h
              refine AW_reg ?_
              refine zm hT 1 [3, 4, 5, 7, 103] [(3, (.ptr 1 0)), (4, (.ptr 2 0)), (5, (.ptr 3 0)), (7, (aI v11)), (103, (.bool v12))] ?_
              refine zO (jQ hT h26) ?_
              refine zm hT 6 [3, 4, 5, 110] [(3, (.ptr 1 0)), (4, (.ptr 2 0)), (5, (.ptr 3 0)), (110, (.bool (((l57 v5).length : Int) == v11)))] ?_
              refine zO (jQ hT h27) ?_
              refine zm hT 3 [111, 113, 114] [(111, (.bool true)), (113, (.sl (l57 v5))), (114, (.fn 112 [] [(.ptr 1 0), (.ptr 3 0)]))] ?_
              refine zO (jC Go.Proofs.Try.func111 (Fn_in (L := [.cells [(aI v8), (aI (IntKind.wrap .i64 (v9 + 1)))], .cells [(.ptr 0 0)], .cells [(aI v1), (.str v2), (aI v3), (.str v4), (.sl (l57 v5)), (aI v6)], .cells [(aI v7)]]) (args' := [(.sl (l57 v5)), (.fn 112 [] [(.ptr 1 0), (.ptr 3 0)])]) (res' := (.bool v15)) (L'' := [.cells [(aI v8), (aI v16)], .cells [(.ptr 0 0)], .cells [(aI v1), (.str v2), (aI v3), (.str v4), (.sl (l57 v5)), (aI v6)], .cells [(aI v7)]]) [1, 0, 3] (ih_F111 k24 h25 v5 v8 (IntKind.wrap .i64 (v9 + 1)) v7 v15 v16 h28) rfl (by decide) ⟨(by simp [AV.ren, AV.rens, AObj.ren, gname]), (by simp [AV.ren, AV.rens, AObj.ren, gname]), (by simp [AV.ren, AV.rens, AObj.ren, gname]), trivial⟩ (by simp [AV.low, AV.lows, AObj.low]) (by simp [AV.low, AV.lows, AObj.low]) (by kernel_rfl) (by simp [AV.ren, AV.rens, AObj.ren, gname, putBack]) (by simp [AV.ren, AV.rens, AObj.ren, gname, putBack]) (by simp [AV.ren, AV.rens, AObj.ren, gname, putBack]))) ?_
              refine ze hT 3 [6] [(6, (.bool (!v15)))] ?_
              refine AE_seqN ?_
              refine AE_ret ?_
              refine zK [6] [(6, (.bool (!v15)))] ?_
              simp only [Option.some.injEq, Prod.mk.injEq] at h
              obtain ⟨rfl, rfl⟩ := h
              exact zEnd
            · refine AW_reg ?_
              refine zm hT 1 [3, 4, 5, 7, 103] [(3, (.ptr 1 0)), (4, (.ptr 2 0)), (5, (.ptr 3 0)), (7, (aI v11)), (103, (.bool v12))] ?_
              refine zO (jQ hT h26) ?_
              refine zm hT 6 [3, 4, 5, 110] [(3, (.ptr 1 0)), (4, (.ptr 2 0)), (5, (.ptr 3 0)), (110, (.bool (((l57 v5).length : Int) == v11)))] ?_
              refine zO (jQ hT h27) ?_
              refine ze hT 7 [6] [(6, (.bool false))] ?_
              refine AE_seqN ?_
              refine AE_ret ?_
              refine zK [6] [(6, (.bool false))] ?_
              simp only [Option.some.injEq, Prod.mk.injEq] at h
              obtain ⟨rfl, rfl⟩ := h
              exact zEnd
          · refine AW_reg ?_
            refine zm hT 1 [3, 4, 5, 7, 103] [(3, (.ptr 1 0)), (4, (.ptr 2 0)), (5, (.ptr 3 0)), (7, (aI v11)), (103, (.bool v12))] ?_
            refine zO (jQ hT h26) ?_
            refine ze hT 14 [6] [(6, (.bool false))] ?_
            refine AE_seqN ?_
            refine AE_ret ?_
            refine zK [6] [(6, (.bool false))] ?_
            simp only [Option.some.injEq, Prod.mk.injEq] at h
            obtain ⟨rfl, rfl⟩ := h
            exact zEnd

theorem F112_all (K0 : Nat) : (∀ (v1 : Int) (v2 : ByteArray) (v3 : Int) (v4 : ByteArray) (v5 : (List T57)) (v6 : Int) (v7 : Int) (v8 : Int) (v9 : Int) (r1 : Bool) (r2 : Int), F112 K0 v1 v2 v3 v4 v5 v6 v7 v8 v9 = some (r1, r2) → Fn prog 112 [(.agg [(aI v1), (.str v2), (aI v3), (.str v4), (.sl (l57 v5)), (aI v6)]), (.ptr 0 0), (.ptr 2 0)] [.cells [(.ptr 1 0)], .cells [(aI v7), (aI v8)], .cells [(aI v9)]] (.bool r1) [.cells [(.ptr 1 0)], .cells [(aI v7), (aI r2)], .cells [(aI v9)]]) ∧ (∀ (v1 : (List T57)) (v2 : Int) (v3 : Int) (v4 : Int) (r1 : Int) (r2 : Int), F134 K0 v1 v2 v3 v4 = some (r1, r2) → Fn prog 134 [(.sl (l57 v1)), (.fn 112 [] [(.ptr 0 0), (.ptr 2 0)])] [.cells [(.ptr 1 0)], .cells [(aI v2), (aI v3)], .cells [(aI v4)]] (aI r1) [.cells [(.ptr 1 0)], .cells [(aI v2), (aI r2)], .cells [(aI v4)]]) ∧ (∀ (v1 : (List T57)) (v2 : Int) (v3 : Int) (v4 : Int) (r1 : Bool) (r2 : Int), F111 K0 v1 v2 v3 v4 = some (r1, r2) → Fn prog 111 [(.sl (l57 v1)), (.fn 112 [] [(.ptr 0 0), (.ptr 2 0)])] [.cells [(.ptr 1 0)], .cells [(aI v2), (aI v3)], .cells [(aI v4)]] (.bool r1) [.cells [(.ptr 1 0)], .cells [(aI v2), (aI r2)], .cells [(aI v4)]]) ∧ (∀ (v1 : Int) (v2 : ByteArray) (v3 : Int) (v4 : ByteArray) (v5 : (List T57)) (v6 : Int) (v7 : Int) (v8 : Int) (v9 : Int) (r1 : Bool) (r2 : Int), F61 K0 v1 v2 v3 v4 v5 v6 v7 v8 v9 = some (r1, r2) → Fn prog 61 [(.ptr 0 0), (.agg [(aI v1), (.str v2), (aI v3), (.str v4), (.sl (l57 v5)), (aI v6)]), (aI v7)] [.cells [(aI v8), (aI v9)]] (.bool r1) [.cells [(aI v8), (aI r2)]]) := by
  induction K0 using Nat.strongRecOn with
  | ind K0 ih => exact ⟨F112_step K0 (fun k hk => (ih k hk).1) (fun k hk => (ih k hk).2.1) (fun k hk => (ih k hk).2.2.1) (fun k hk => (ih k hk).2.2.2), F134_step K0 (fun k hk => (ih k hk).1) (fun k hk => (ih k hk).2.1) (fun k hk => (ih k hk).2.2.1) (fun k hk => (ih k hk).2.2.2), F111_step K0 (fun k hk => (ih k hk).1) (fun k hk => (ih k hk).2.1) (fun k hk => (ih k hk).2.2.1) (fun k hk => (ih k hk).2.2.2), F61_step K0 (fun k hk => (ih k hk).1) (fun k hk => (ih k hk).2.1) (fun k hk => (ih k hk).2.2.1) (fun k hk => (ih k hk).2.2.2)⟩

theorem F112_ok (K0 : Nat) : ∀ (v1 : Int) (v2 : ByteArray) (v3 : Int) (v4 : ByteArray) (v5 : (List T57)) (v6 : Int) (v7 : Int) (v8 : Int) (v9 : Int) (r1 : Bool) (r2 : Int), F112 K0 v1 v2 v3 v4 v5 v6 v7 v8 v9 = some (r1, r2) → Fn prog 112 [(.agg [(aI v1), (.str v2), (aI v3), (.str v4), (.sl (l57 v5)), (aI v6)]), (.ptr 0 0), (.ptr 2 0)] [.cells [(.ptr 1 0)], .cells [(aI v7), (aI v8)], .cells [(aI v9)]] (.bool r1) [.cells [(.ptr 1 0)], .cells [(aI v7), (aI r2)], .cells [(aI v9)]] := (F112_all K0).1

theorem F134_ok (K0 : Nat) : ∀ (v1 : (List T57)) (v2 : Int) (v3 : Int) (v4 : Int) (r1 : Int) (r2 : Int), F134 K0 v1 v2 v3 v4 = some (r1, r2) → Fn prog 134 [(.sl (l57 v1)), (.fn 112 [] [(.ptr 0 0), (.ptr 2 0)])] [.cells [(.ptr 1 0)], .cells [(aI v2), (aI v3)], .cells [(aI v4)]] (aI r1) [.cells [(.ptr 1 0)], .cells [(aI v2), (aI r2)], .cells [(aI v4)]] := (F112_all K0).2.1

theorem F111_ok (K0 : Nat) : ∀ (v1 : (List T57)) (v2 : Int) (v3 : Int) (v4 : Int) (r1 : Bool) (r2 : Int), F111 K0 v1 v2 v3 v4 = some (r1, r2) → Fn prog 111 [(.sl (l57 v1)), (.fn 112 [] [(.ptr 0 0), (.ptr 2 0)])] [.cells [(.ptr 1 0)], .cells [(aI v2), (aI v3)], .cells [(aI v4)]] (.bool r1) [.cells [(.ptr 1 0)], .cells [(aI v2), (aI r2)], .cells [(aI v4)]] := (F112_all K0).2.2.1

theorem F61_ok (K0 : Nat) : ∀ (v1 : Int) (v2 : ByteArray) (v3 : Int) (v4 : ByteArray) (v5 : (List T57)) (v6 : Int) (v7 : Int) (v8 : Int) (v9 : Int) (r1 : Bool) (r2 : Int), F61 K0 v1 v2 v3 v4 v5 v6 v7 v8 v9 = some (r1, r2) → Fn prog 61 [(.ptr 0 0), (.agg [(aI v1), (.str v2), (aI v3), (.str v4), (.sl (l57 v5)), (aI v6)]), (aI v7)] [.cells [(aI v8), (aI v9)]] (.bool r1) [.cells [(aI v8), (aI r2)]] := (F112_all K0).2.2.2

mutual
def F76 : Nat → (List T69) → Int → Int → Int → Option (Bool × Int × Int)
  | 0, _, _, _, _ => none
  | k + 1, v1, v2, v3, v4 =>
    F76_l0 k v2 v1 0 v3 v4
def F76_j1 : Nat → Int → (List T69) → Int → Bool → Int → Int → Int → ByteArray → ByteArray → (List T57) → (List T69) → (List T69) → Option (Bool × Int × Int)
  | 0, _, _, _, _, _, _, _, _, _, _, _, _ => none
  | k6 + 1, v2, v1, v15, v16, v17, v18, v19, v20, v21, v22, v23, v24 =>
    (bif v16 then
      some (false, v17, v18)
    else
      ((F119 k6 v19).bind fun ⟨v26, v27, v28, v29, v30, v31⟩ =>
        (bif (!v31) then
          F76_j2 k6 v2 v1 v15 true v17 v18 v22 v23 v24
        else
          ((F120 k6 v20 v26).bind fun v48 =>
            (bif (!v48) then
              F76_j2 k6 v2 v1 v15 true v17 v18 v22 v23 v24
            else
              ((F120 k6 v21 v27).bind fun v49 =>
                (bif (!v49) then
                  F76_j2 k6 v2 v1 v15 true v17 v18 v22 v23 v24
                else
                  (bif (((l57 v22).length : Int) != v28) then
                    F76_j2 k6 v2 v1 v15 true v17 v18 v22 v23 v24
                  else
                    (bif (!v29) then
                      (bif (decide (((l69 v23).length : Int) > 0)) then
                        F76_j2 k6 v2 v1 v15 true v17 v18 v22 v23 v24
                      else
                        (bif (!v30) then
                          F76_j2 k6 v2 v1 v15 (decide (((l69 v24).length : Int) > 0)) v17 v18 v22 v23 v24
                        else
                          F76_j2 k6 v2 v1 v15 false v17 v18 v22 v23 v24))
                    else
                      (bif (!v30) then
                        F76_j2 k6 v2 v1 v15 (decide (((l69 v24).length : Int) > 0)) v17 v18 v22 v23 v24
                      else
                        F76_j2 k6 v2 v1 v15 false v17 v18 v22 v23 v24))))))))))
def F76_j2 : Nat → Int → (List T69) → Int → Bool → Int → Int → (List T57) → (List T69) → (List T69) → Option (Bool × Int × Int)
  | 0, _, _, _, _, _, _, _, _, _ => none
  | k20 + 1, v2, v1, v32, v33, v34, v35, v39, v40, v41 =>
    (bif v33 then
      some (false, v34, v35)
    else
      F76_l3 k20 v2 v1 v32 v39 v34 v40 v41 0 v35)
def F76_j4 : Nat → Int → (List T69) → Int → Bool → Int → Int → Option (Bool × Int × Int)
  | 0, _, _, _, _, _, _ => none
  | k32 + 1, v2, v1, v60, v61, v62, v63 =>
    (bif v61 then
      some (false, v62, v63)
    else
      F76_l0 k32 v2 v1 (IntKind.wrap .i64 (v60 + 1)) v62 v63)
def F76_l0 : Nat → Int → (List T69) → Int → Int → Int → Option (Bool × Int × Int)
  | 0, _, _, _, _, _ => none
  | k1 + 1, v2, v1, v5, v6, v7 =>
    (bif (decide (v5 < ((l69 v1).length : Int))) then
      ((idx v1 v5).bind fun ⟨v8, v9, v10, v11, v12, v13, v14⟩ =>
        (bif (decide ((IntKind.wrap .i64 (v6 + 1)) > 200)) then
          F76_j1 k1 v2 v1 v5 true (IntKind.wrap .i64 (v6 + 1)) v7 v8 v9 v10 v11 v12 v13
        else
          F76_j1 k1 v2 v1 v5 (decide (v2 < 1)) (IntKind.wrap .i64 (v6 + 1)) v7 v8 v9 v10 v11 v12 v13))
    else
      some (true, v6, v7))
def F76_l3 : Nat → Int → (List T69) → Int → (List T57) → Int → (List T69) → (List T69) → Int → Int → Option (Bool × Int × Int)
  | 0, _, _, _, _, _, _, _, _, _ => none
  | k23 + 1, v2, v1, v32, v39, v34, v40, v41, v50, v51 =>
    (bif (decide (v50 < ((l57 v39).length : Int))) then
      ((idx v39 v50).bind fun ⟨v52, v53, v54, v55, v56, v57⟩ =>
        ((F61 k23 v52 v53 v54 v55 v56 v57 12 v34 v51).bind fun ⟨v58, v59⟩ =>
          (bif (!v58) then
            some (false, v34, v59)
          else
            F76_l3 k23 v2 v1 v32 v39 v34 v40 v41 (IntKind.wrap .i64 (v50 + 1)) v59)))
    else
      ((F76 k23 v40 (IntKind.wrap .i64 (v2 - 1)) v34 v51).bind fun ⟨v76, v77, v78⟩ =>
        (bif (!v76) then
          F76_j4 k23 v2 v1 v32 true v77 v78
        else
          ((F76 k23 v41 (IntKind.wrap .i64 (v2 - 1)) v77 v78).bind fun ⟨v79, v80, v81⟩ =>
            F76_j4 k23 v2 v1 v32 (!v79) v80 v81))))
end

theorem F76_step (K0 : Nat) (ih_F76 : ∀ k, k < K0 → ∀ (v1 : (List T69)) (v2 : Int) (v3 : Int) (v4 : Int) (r1 : Bool) (r2 : Int) (r3 : Int), F76 k v1 v2 v3 v4 = some (r1, r2, r3) → Fn prog 76 [(.ptr 0 0), (.sl (l69 v1)), (aI v2)] [.cells [(aI v3), (aI v4)]] (.bool r1) [.cells [(aI r2), (aI r3)]]) : ∀ (v1 : (List T69)) (v2 : Int) (v3 : Int) (v4 : Int) (r1 : Bool) (r2 : Int) (r3 : Int), F76 K0 v1 v2 v3 v4 = some (r1, r2, r3) → Fn prog 76 [(.ptr 0 0), (.sl (l69 v1)), (aI v2)] [.cells [(aI v3), (aI v4)]] (.bool r1) [.cells [(aI r2), (aI r3)]] := by
  intro v1 v2 v3 v4 r1 r2 r3 h
  cases K0 with
  | zero => rw [F76] at h; cases h
  | succ k =>
    have hk : k < k + 1 := Nat.lt_succ_self k
    rw [F76] at h
    refine Fn_bodyK hT Go.Proofs.Try.func76 (c := Go.Proofs.Try.f76.body.getD .skip) (by kernel_rfl) (by kernel_rfl) (by kernel_rfl) ?_
    refine zs hT [0, 1, 2] [(0, (.ptr 0 0)), (1, (.sl (l69 v1))), (2, (aI v2))] ?_
    refine AW_seq ?_
    refine zs hT [0, 2, 13, 14, 15] [(0, (.ptr 0 0)), (2, (aI v2)), (13, (.sl (l69 v1))), (14, (aI ((l69 v1).length : Int))), (15, (aI 0))] ?_
    refine AW_block ?_
    refine zKw [0, 2, 13, 14, 15] [(0, (.ptr 0 0)), (2, (aI v2)), (13, (.sl (l69 v1))), (14, (aI ((l69 v1).length : Int))), (15, (aI 0))] ?_
    refine AW_loop (fun n env L => n ≤ k ∧ ∃ (v5 : Int) (v6 : Int) (v7 : Int), env = [(0, (.ptr 0 0)), (2, (aI v2)), (13, (.sl (l69 v1))), (14, (aI ((l69 v1).length : Int))), (15, (aI v5))] ∧ L = [.cells [(aI v6), (aI v7)]] ∧ F76_l0 n v2 v1 v5 v6 v7 = some (r1, r2, r3)) k ⟨Nat.le_refl _, 0, v3, v4, rfl, rfl, h⟩ ?_
    rintro n _ _ ⟨hn, v5, v6, v7, rfl, rfl, h⟩
    cases n with
    | zero => rw [F76_l0] at h; cases h
    | succ k1 =>
      have h2 : k1 < (k + 1) := by omega
      rw [F76_l0] at h
      refine zs hT [0, 2, 13, 14, 15, 16] [(0, (.ptr 0 0)), (2, (aI v2)), (13, (.sl (l69 v1))), (14, (aI ((l69 v1).length : Int))), (15, (aI v5)), (16, (.bool (decide (v5 < ((l69 v1).length : Int)))))] ?_
      refine AW_seq ?_
      rcases bif_split h with ⟨h3, h⟩ | ⟨h3, h⟩
      · refine zT h3 ?_
        refine AE_skip ?_
        refine AE_seqN ?_
        refine AW_seq ?_
        refine AW_block ?_
        refine AW_seq ?_
        obtain ⟨⟨v8, v9, v10, v11, v12, v13, v14⟩, h4, h⟩ := bsm h
        try dsimp only at h
        refine AW_reg ?_
        refine zO (jX hT 7 (i69 h4)) ?_
        refine zE hT 3 [0, 2, 8, 13, 14, 15] [(0, (.ptr 0 0)), (2, (aI v2)), (8, (.ptr 1 0)), (13, (.sl (l69 v1))), (14, (aI ((l69 v1).length : Int))), (15, (aI v5))] [.cells [(aI v6), (aI v7)], .cells [(aI v8), (.str v9), (.str v10), (.sl (l57 v11)), (.sl (l69 v12)), (.sl (l69 v13)), (aI v14)]] ?_
        refine AE_seqN ?_
        refine AW_seq ?_
        refine zS hT [0, 2, 8, 13, 14, 15] [(0, (.ptr 0 0)), (2, (aI v2)), (8, (.ptr 1 0)), (13, (.sl (l69 v1))), (14, (aI ((l69 v1).length : Int))), (15, (aI v5))] [.cells [(aI (IntKind.wrap .i64 (v6 + 1))), (aI v7)], .cells [(aI v8), (.str v9), (.str v10), (.sl (l57 v11)), (.sl (l69 v12)), (.sl (l69 v13)), (aI v14)]] ?_
        refine AW_join (fun env L => ∃ (v15 : Int) (v16 : Bool) (v17 : Int) (v18 : Int) (v19 : Int) (v20 : ByteArray) (v21 : ByteArray) (v22 : (List T57)) (v23 : (List T69)) (v24 : (List T69)) (v25 : Int), env = [(0, (.ptr 0 0)), (2, (aI v2)), (8, (.ptr 1 0)), (13, (.sl (l69 v1))), (14, (aI ((l69 v1).length : Int))), (15, (aI v15)), (34, (.bool v16))] ∧ L = [.cells [(aI v17), (aI v18)], .cells [(aI v19), (.str v20), (.str v21), (.sl (l57 v22)), (.sl (l69 v23)), (.sl (l69 v24)), (aI v25)]] ∧ ∃ n, n ≤ k1 ∧ F76_j1 n v2 v1 v15 v16 v17 v18 v19 v20 v21 v22 v23 v24 = some (r1, r2, r3)) ?_ ?_
        · rcases bif_split h with ⟨h5, h⟩ | ⟨h5, h⟩
          · refine AW_reg ?_
            refine zm hT 5 [0, 2, 8, 13, 14, 15, 30] [(0, (.ptr 0 0)), (2, (aI v2)), (8, (.ptr 1 0)), (13, (.sl (l69 v1))), (14, (aI ((l69 v1).length : Int))), (15, (aI v5)), (30, (.bool (decide ((IntKind.wrap .i64 (v6 + 1)) > 200))))] ?_
            refine zO (jQ hT h5) ?_
            refine ze hT 3 [0, 2, 8, 13, 14, 15, 34] [(0, (.ptr 0 0)), (2, (aI v2)), (8, (.ptr 1 0)), (13, (.sl (l69 v1))), (14, (aI ((l69 v1).length : Int))), (15, (aI v5)), (34, (.bool true))] ?_
            refine zK [0, 2, 8, 13, 14, 15, 34] [(0, (.ptr 0 0)), (2, (aI v2)), (8, (.ptr 1 0)), (13, (.sl (l69 v1))), (14, (aI ((l69 v1).length : Int))), (15, (aI v5)), (34, (.bool true))] ?_
            exact AE_done ⟨v5, true, (IntKind.wrap .i64 (v6 + 1)), v7, v8, v9, v10, v11, v12, v13, v14, rfl, rfl, k1, by omega, h⟩
          · refine AW_reg ?_
            refine zm hT 5 [0, 2, 8, 13, 14, 15, 30] [(0, (.ptr 0 0)), (2, (aI v2)), (8, (.ptr 1 0)), (13, (.sl (l69 v1))), (14, (aI ((l69 v1).length : Int))), (15, (aI v5)), (30, (.bool (decide ((IntKind.wrap .i64 (v6 + 1)) > 200))))] ?_
            refine zO (jQ hT h5) ?_
            refine ze hT 3 [0, 2, 8, 13, 14, 15, 34] [(0, (.ptr 0 0)), (2, (aI v2)), (8, (.ptr 1 0)), (13, (.sl (l69 v1))), (14, (aI ((l69 v1).length : Int))), (15, (aI v5)), (34, (.bool (decide (v2 < 1))))] ?_
            refine zK [0, 2, 8, 13, 14, 15, 34] [(0, (.ptr 0 0)), (2, (aI v2)), (8, (.ptr 1 0)), (13, (.sl (l69 v1))), (14, (aI ((l69 v1).length : Int))), (15, (aI v5)), (34, (.bool (decide (v2 < 1))))] ?_
            exact AE_done ⟨v5, (decide (v2 < 1)), (IntKind.wrap .i64 (v6 + 1)), v7, v8, v9, v10, v11, v12, v13, v14, rfl, rfl, k1, by omega, h⟩
        · rintro _ _ ⟨v15, v16, v17, v18, v19, v20, v21, v22, v23, v24, v25, rfl, rfl, n, hn, h⟩
          obtain _ | k6 := n
          · rw [F76_j1] at h; cases h
          have h7 : k6 < (k + 1) := by omega
          rw [F76_j1] at h
          rcases bif_split h with ⟨h8, h⟩ | ⟨h8, h⟩
          · refine zT h8 ?_
            refine zs hT [6] [(6, (.bool false))] ?_
            refine AE_ret ?_
            refine AE_seqR ?_
            refine AE_blkR ?_
            refine AE_seqR ?_
            refine AE_seqR ?_
            refine AE_blkR ?_
            refine AE_seqR ?_
            refine zK [6] [(6, (.bool false))] ?_
            simp only [Option.some.injEq, Prod.mk.injEq] at h
            obtain ⟨rfl, rfl, rfl⟩ := h
            exact zEnd
          · refine zN h8 ?_
            refine AE_skip ?_
            refine AE_seqN ?_
            refine AW_seq ?_
            obtain ⟨⟨v26, v27, v28, v29, v30, v31⟩, h9, h⟩ := bsm h
            try dsimp only at h
            refine AW_reg ?_
            refine zm hT 2 [0, 2, 8, 13, 14, 15, 37] [(0, (.ptr 0 0)), (2, (aI v2)), (8, (.ptr 1 0)), (13, (.sl (l69 v1))), (14, (aI ((l69 v1).length : Int))), (15, (aI v15)), (37, (aI v19))] ?_
            refine zO (jP Go.Proofs.Try.func119 (F119_ok k6 v19 v26 v27 v28 v29 v30 v31 h9)) ?_
            refine zE hT 6 [0, 2, 8, 9, 10, 13, 14, 15] [(0, (.ptr 0 0)), (2, (aI v2)), (8, (.ptr 1 0)), (9, (.ptr 2 0)), (10, (.bool v31)), (13, (.sl (l69 v1))), (14, (aI ((l69 v1).length : Int))), (15, (aI v15))] [.cells [(aI v17), (aI v18)], .cells [(aI v19), (.str v20), (.str v21), (.sl (l57 v22)), (.sl (l69 v23)), (.sl (l69 v24)), (aI v25)], .cells [(.bool v26), (.bool v27), (aI v28), (.bool v29), (.bool v30)]] ?_
            refine AE_seqN ?_
            refine AW_seq ?_
            refine AW_join (fun env L => ∃ (v32 : Int) (v33 : Bool) (v34 : Int) (v35 : Int) (v36 : Int) (v37 : ByteArray) (v38 : ByteArray) (v39 : (List T57)) (v40 : (List T69)) (v41 : (List T69)) (v42 : Int) (v43 : Bool) (v44 : Bool) (v45 : Int) (v46 : Bool) (v47 : Bool), env = [(0, (.ptr 0 0)), (2, (aI v2)), (8, (.ptr 1 0)), (13, (.sl (l69 v1))), (14, (aI ((l69 v1).length : Int))), (15, (aI v32)), (88, (.bool v33))] ∧ L = [.cells [(aI v34), (aI v35)], .cells [(aI v36), (.str v37), (.str v38), (.sl (l57 v39)), (.sl (l69 v40)), (.sl (l69 v41)), (aI v42)], .cells [(.bool v43), (.bool v44), (aI v45), (.bool v46), (.bool v47)]] ∧ ∃ n, n ≤ k6 ∧ F76_j2 n v2 v1 v32 v33 v34 v35 v39 v40 v41 = some (r1, r2, r3)) ?_ ?_
            · rcases bif_split h with ⟨h10, h⟩ | ⟨h10, h⟩
              · refine AW_reg ?_
                refine zm hT 2 [0, 2, 8, 9, 13, 14, 15, 42] [(0, (.ptr 0 0)), (2, (aI v2)), (8, (.ptr 1 0)), (9, (.ptr 2 0)), (13, (.sl (l69 v1))), (14, (aI ((l69 v1).length : Int))), (15, (aI v15)), (42, (.bool (!v31)))] ?_
                refine zO (jQ hT h10) ?_
                refine ze hT 45 [0, 2, 8, 13, 14, 15, 88] [(0, (.ptr 0 0)), (2, (aI v2)), (8, (.ptr 1 0)), (13, (.sl (l69 v1))), (14, (aI ((l69 v1).length : Int))), (15, (aI v15)), (88, (.bool true))] ?_
                refine zK [0, 2, 8, 13, 14, 15, 88] [(0, (.ptr 0 0)), (2, (aI v2)), (8, (.ptr 1 0)), (13, (.sl (l69 v1))), (14, (aI ((l69 v1).length : Int))), (15, (aI v15)), (88, (.bool true))] ?_
                exact AE_done ⟨v15, true, v17, v18, v19, v20, v21, v22, v23, v24, v25, v26, v27, v28, v29, v30, rfl, rfl, k6, by omega, h⟩
              · obtain ⟨v48, h11, h⟩ := bsm h
                try dsimp only at h
                rcases bif_split h with ⟨h12, h⟩ | ⟨h12, h⟩
                · refine AW_reg ?_
                  refine zm hT 2 [0, 2, 8, 9, 13, 14, 15, 42] [(0, (.ptr 0 0)), (2, (aI v2)), (8, (.ptr 1 0)), (9, (.ptr 2 0)), (13, (.sl (l69 v1))), (14, (aI ((l69 v1).length : Int))), (15, (aI v15)), (42, (.bool (!v31)))] ?_
                  refine zO (jQ hT h10) ?_
                  refine zm hT 4 [0, 2, 8, 9, 13, 14, 15, 43, 45, 47] [(0, (.ptr 0 0)), (2, (aI v2)), (8, (.ptr 1 0)), (9, (.ptr 2 0)), (13, (.sl (l69 v1))), (14, (aI ((l69 v1).length : Int))), (15, (aI v15)), (43, (.bool false)), (45, (.str v20)), (47, (.bool v26))] ?_
                  refine zO (jP Go.Proofs.Try.func120 (F120_ok k6 v20 v26 v48 h11)) ?_
                  refine zm hT 2 [0, 2, 8, 9, 13, 14, 15, 50] [(0, (.ptr 0 0)), (2, (aI v2)), (8, (.ptr 1 0)), (9, (.ptr 2 0)), (13, (.sl (l69 v1))), (14, (aI ((l69 v1).length : Int))), (15, (aI v15)), (50, (.bool (!v48)))] ?_
                  refine zO (jQ hT h12) ?_
                  refine ze hT 37 [0, 2, 8, 13, 14, 15, 88] [(0, (.ptr 0 0)), (2, (aI v2)), (8, (.ptr 1 0)), (13, (.sl (l69 v1))), (14, (aI ((l69 v1).length : Int))), (15, (aI v15)), (88, (.bool true))] ?_
                  refine zK [0, 2, 8, 13, 14, 15, 88] [(0, (.ptr 0 0)), (2, (aI v2)), (8, (.ptr 1 0)), (13, (.sl (l69 v1))), (14, (aI ((l69 v1).length : Int))), (15, (aI v15)), (88, (.bool true))] ?_
                  exact AE_done ⟨v15, true, v17, v18, v19, v20, v21, v22, v23, v24, v25, v26, v27, v28, v29, v30, rfl, rfl, k6, by omega, h⟩
                · obtain ⟨v49, h13, h⟩ := bsm h
                  try dsimp only at h
                  rcases bif_split h with ⟨h14, h⟩ | ⟨h14, h⟩
                  · refine AW_reg ?_
                    refine zm hT 2 [0, 2, 8, 9, 13, 14, 15, 42] [(0, (.ptr 0 0)), (2, (aI v2)), (8, (.ptr 1 0)), (9, (.ptr 2 0)), (13, (.sl (l69 v1))), (14, (aI ((l69 v1).length : Int))), (15, (aI v15)), (42, (.bool (!v31)))] ?_
                    refine zO (jQ hT h10) ?_
                    refine zm hT 4 [0, 2, 8, 9, 13, 14, 15, 43, 45, 47] [(0, (.ptr 0 0)), (2, (aI v2)), (8, (.ptr 1 0)), (9, (.ptr 2 0)), (13, (.sl (l69 v1))), (14, (aI ((l69 v1).length : Int))), (15, (aI v15)), (43, (.bool false)), (45, (.str v20)), (47, (.bool v26))] ?_
                    refine zO (jP Go.Proofs.Try.func120 (F120_ok k6 v20 v26 v48 h11)) ?_
                    refine zm hT 2 [0, 2, 8, 9, 13, 14, 15, 50] [(0, (.ptr 0 0)), (2, (aI v2)), (8, (.ptr 1 0)), (9, (.ptr 2 0)), (13, (.sl (l69 v1))), (14, (aI ((l69 v1).length : Int))), (15, (aI v15)), (50, (.bool (!v48)))] ?_
                    refine zO (jQ hT h12) ?_
                    refine zm hT 4 [0, 2, 8, 9, 13, 14, 15, 51, 53, 55] [(0, (.ptr 0 0)), (2, (aI v2)), (8, (.ptr 1 0)), (9, (.ptr 2 0)), (13, (.sl (l69 v1))), (14, (aI ((l69 v1).length : Int))), (15, (aI v15)), (51, (.bool false)), (53, (.str v21)), (55, (.bool v27))] ?_
                    refine zO (jP Go.Proofs.Try.func120 (F120_ok k6 v21 v27 v49 h13)) ?_
                    refine zm hT 2 [0, 2, 8, 9, 13, 14, 15, 58] [(0, (.ptr 0 0)), (2, (aI v2)), (8, (.ptr 1 0)), (9, (.ptr 2 0)), (13, (.sl (l69 v1))), (14, (aI ((l69 v1).length : Int))), (15, (aI v15)), (58, (.bool (!v49)))] ?_
                    refine zO (jQ hT h14) ?_
                    refine ze hT 29 [0, 2, 8, 13, 14, 15, 88] [(0, (.ptr 0 0)), (2, (aI v2)), (8, (.ptr 1 0)), (13, (.sl (l69 v1))), (14, (aI ((l69 v1).length : Int))), (15, (aI v15)), (88, (.bool true))] ?_
                    refine zK [0, 2, 8, 13, 14, 15, 88] [(0, (.ptr 0 0)), (2, (aI v2)), (8, (.ptr 1 0)), (13, (.sl (l69 v1))), (14, (aI ((l69 v1).length : Int))), (15, (aI v15)), (88, (.bool true))] ?_
                    exact AE_done ⟨v15, true, v17, v18, v19, v20, v21, v22, v23, v24, v25, v26, v27, v28, v29, v30, rfl, rfl, k6, by omega, h⟩
                  · rcases bif_split h with ⟨h15, h⟩ | ⟨h15, h⟩
                    · refine AW_reg ?_
                      refine zm hT 2 [0, 2, 8, 9, 13, 14, 15, 42] [(0, (.ptr 0 0)), (2, (aI v2)), (8, (.ptr 1 0)), (9, (.ptr 2 0)), (13, (.sl (l69 v1))), (14, (aI ((l69 v1).length : Int))), (15, (aI v15)), (42, (.bool (!v31)))] ?_
                      refine zO (jQ hT h10) ?_
                      refine zm hT 4 [0, 2, 8, 9, 13, 14, 15, 43, 45, 47] [(0, (.ptr 0 0)), (2, (aI v2)), (8, (.ptr 1 0)), (9, (.ptr 2 0)), (13, (.sl (l69 v1))), (14, (aI ((l69 v1).length : Int))), (15, (aI v15)), (43, (.bool false)), (45, (.str v20)), (47, (.bool v26))] ?_
                      refine zO (jP Go.Proofs.Try.func120 (F120_ok k6 v20 v26 v48 h11)) ?_
                      refine zm hT 2 [0, 2, 8, 9, 13, 14, 15, 50] [(0, (.ptr 0 0)), (2, (aI v2)), (8, (.ptr 1 0)), (9, (.ptr 2 0)), (13, (.sl (l69 v1))), (14, (aI ((l69 v1).length : Int))), (15, (aI v15)), (50, (.bool (!v48)))] ?_
                      refine zO (jQ hT h12) ?_
                      refine zm hT 4 [0, 2, 8, 9, 13, 14, 15, 51, 53, 55] [(0, (.ptr 0 0)), (2, (aI v2)), (8, (.ptr 1 0)), (9, (.ptr 2 0)), (13, (.sl (l69 v1))), (14, (aI ((l69 v1).length : Int))), (15, (aI v15)), (51, (.bool false)), (53, (.str v21)), (55, (.bool v27))] ?_
                      refine zO (jP Go.Proofs.Try.func120 (F120_ok k6 v21 v27 v49 h13)) ?_
                      refine zm hT 2 [0, 2, 8, 9, 13, 14, 15, 58] [(0, (.ptr 0 0)), (2, (aI v2)), (8, (.ptr 1 0)), (9, (.ptr 2 0)), (13, (.sl (l69 v1))), (14, (aI ((l69 v1).length : Int))), (15, (aI v15)), (58, (.bool (!v49)))] ?_
                      refine zO (jQ hT h14) ?_
                      refine zm hT 7 [0, 2, 8, 9, 13, 14, 15, 66] [(0, (.ptr 0 0)), (2, (aI v2)), (8, (.ptr 1 0)), (9, (.ptr 2 0)), (13, (.sl (l69 v1))), (14, (aI ((l69 v1).length : Int))), (15, (aI v15)), (66, (.bool (((l57 v22).length : Int) != v28)))] ?_
                      refine zO (jQ hT h15) ?_
                      refine ze hT 21 [0, 2, 8, 13, 14, 15, 88] [(0, (.ptr 0 0)), (2, (aI v2)), (8, (.ptr 1 0)), (13, (.sl (l69 v1))), (14, (aI ((l69 v1).length : Int))), (15, (aI v15)), (88, (.bool true))] ?_
                      refine zK [0, 2, 8, 13, 14, 15, 88] [(0, (.ptr 0 0)), (2, (aI v2)), (8, (.ptr 1 0)), (13, (.sl (l69 v1))), (14, (aI ((l69 v1).length : Int))), (15, (aI v15)), (88, (.bool true))] ?_
                      exact AE_done ⟨v15, true, v17, v18, v19, v20, v21, v22, v23, v24, v25, v26, v27, v28, v29, v30, rfl, rfl, k6, by omega, h⟩
                    · rcases bif_split h with ⟨h16, h⟩ | ⟨h16, h⟩
                      · rcases bif_split h with ⟨h17, h⟩ | ⟨h17, h⟩
                        · refine AW_reg ?_
                          refine zm hT 2 [0, 2, 8, 9, 13, 14, 15, 42] [(0, (.ptr 0 0)), (2, (aI v2)), (8, (.ptr 1 0)), (9, (.ptr 2 0)), (13, (.sl (l69 v1))), (14, (aI ((l69 v1).length : Int))), (15, (aI v15)), (42, (.bool (!v31)))] ?_
                          refine zO (jQ hT h10) ?_
                          refine zm hT 4 [0, 2, 8, 9, 13, 14, 15, 43, 45, 47] [(0, (.ptr 0 0)), (2, (aI v2)), (8, (.ptr 1 0)), (9, (.ptr 2 0)), (13, (.sl (l69 v1))), (14, (aI ((l69 v1).length : Int))), (15, (aI v15)), (43, (.bool false)), (45, (.str v20)), (47, (.bool v26))] ?_
                          refine zO (jP Go.Proofs.Try.func120 (F120_ok k6 v20 v26 v48 h11)) ?_
                          refine zm hT 2 [0, 2, 8, 9, 13, 14, 15, 50] [(0, (.ptr 0 0)), (2, (aI v2)), (8, (.ptr 1 0)), (9, (.ptr 2 0)), (13, (.sl (l69 v1))), (14, (aI ((l69 v1).length : Int))), (15, (aI v15)), (50, (.bool (!v48)))] ?_
                          refine zO (jQ hT h12) ?_
                          refine zm hT 4 [0, 2, 8, 9, 13, 14, 15, 51, 53, 55] [(0, (.ptr 0 0)), (2, (aI v2)), (8, (.ptr 1 0)), (9, (.ptr 2 0)), (13, (.sl (l69 v1))), (14, (aI ((l69 v1).length : Int))), (15, (aI v15)), (51, (.bool false)), (53, (.str v21)), (55, (.bool v27))] ?_
                          refine zO (jP Go.Proofs.Try.func120 (F120_ok k6 v21 v27 v49 h13)) ?_
                          refine zm hT 2 [0, 2, 8, 9, 13, 14, 15, 58] [(0, (.ptr 0 0)), (2, (aI v2)), (8, (.ptr 1 0)), (9, (.ptr 2 0)), (13, (.sl (l69 v1))), (14, (aI ((l69 v1).length : Int))), (15, (aI v15)), (58, (.bool (!v49)))] ?_
                          refine zO (jQ hT h14) ?_
                          refine zm hT 7 [0, 2, 8, 9, 13, 14, 15, 66] [(0, (.ptr 0 0)), (2, (aI v2)), (8, (.ptr 1 0)), (9, (.ptr 2 0)), (13, (.sl (l69 v1))), (14, (aI ((l69 v1).length : Int))), (15, (aI v15)), (66, (.bool (((l57 v22).length : Int) != v28)))] ?_
                          refine zO (jQ hT h15) ?_
                          refine zm hT 3 [0, 2, 8, 9, 13, 14, 15, 67, 70] [(0, (.ptr 0 0)), (2, (aI v2)), (8, (.ptr 1 0)), (9, (.ptr 2 0)), (13, (.sl (l69 v1))), (14, (aI ((l69 v1).length : Int))), (15, (aI v15)), (67, (.bool false)), (70, (.bool (!v29)))] ?_
                          refine zO (jQ hT h16) ?_
                          refine zm hT 6 [0, 2, 8, 9, 13, 14, 15, 77] [(0, (.ptr 0 0)), (2, (aI v2)), (8, (.ptr 1 0)), (9, (.ptr 2 0)), (13, (.sl (l69 v1))), (14, (aI ((l69 v1).length : Int))), (15, (aI v15)), (77, (.bool (decide (((l69 v23).length : Int) > 0))))] ?_
                          refine zO (jQ hT h17) ?_
                          refine ze hT 10 [0, 2, 8, 13, 14, 15, 88] [(0, (.ptr 0 0)), (2, (aI v2)), (8, (.ptr 1 0)), (13, (.sl (l69 v1))), (14, (aI ((l69 v1).length : Int))), (15, (aI v15)), (88, (.bool true))] ?_
                          refine zK [0, 2, 8, 13, 14, 15, 88] [(0, (.ptr 0 0)), (2, (aI v2)), (8, (.ptr 1 0)), (13, (.sl (l69 v1))), (14, (aI ((l69 v1).length : Int))), (15, (aI v15)), (88, (.bool true))] ?_
                          exact AE_done ⟨v15, true, v17, v18, v19, v20, v21, v22, v23, v24, v25, v26, v27, v28, v29, v30, rfl, rfl, k6, by omega, h⟩
                        · rcases bif_split h with ⟨h18, h⟩ | ⟨h18, h⟩
                          · refine AW_reg ?_
                            refine zm hT 2 [0, 2, 8, 9, 13, 14, 15, 42] [(0, (.ptr 0 0)), (2, (aI v2)), (8, (.ptr 1 0)), (9, (.ptr 2 0)), (13, (.sl (l69 v1))), (14, (aI ((l69 v1).length : Int))), (15, (aI v15)), (42, (.bool (!v31)))] ?_
                            refine zO (jQ hT h10) ?_
                            refine zm hT 4 [0, 2, 8, 9, 13, 14, 15, 43, 45, 47] [(0, (.ptr 0 0)), (2, (aI v2)), (8, (.ptr 1 0)), (9, (.ptr 2 0)), (13, (.sl (l69 v1))), (14, (aI ((l69 v1).length : Int))), (15, (aI v15)), (43, (.bool false)), (45, (.str v20)), (47, (.bool v26))] ?_
                            refine zO (jP Go.Proofs.Try.func120 (F120_ok k6 v20 v26 v48 h11)) ?_
                            refine zm hT 2 [0, 2, 8, 9, 13, 14, 15, 50] [(0, (.ptr 0 0)), (2, (aI v2)), (8, (.ptr 1 0)), (9, (.ptr 2 0)), (13, (.sl (l69 v1))), (14, (aI ((l69 v1).length : Int))), (15, (aI v15)), (50, (.bool (!v48)))] ?_
                            refine zO (jQ hT h12) ?_
                            refine zm hT 4 [0, 2, 8, 9, 13, 14, 15, 51, 53, 55] [(0, (.ptr 0 0)), (2, (aI v2)), (8, (.ptr 1 0)), (9, (.ptr 2 0)), (13, (.sl (l69 v1))), (14, (aI ((l69 v1).length : Int))), (15, (aI v15)), (51, (.bool false)), (53, (.str v21)), (55, (.bool v27))] ?_
                            refine zO (jP Go.Proofs.Try.func120 (F120_ok k6 v21 v27 v49 h13)) ?_
                            refine zm hT 2 [0, 2, 8, 9, 13, 14, 15, 58] [(0, (.ptr 0 0)), (2, (aI v2)), (8, (.ptr 1 0)), (9, (.ptr 2 0)), (13, (.sl (l69 v1))), (14, (aI ((l69 v1).length : Int))), (15, (aI v15)), (58, (.bool (!v49)))] ?_
                            refine zO (jQ hT h14) ?_
                            refine zm hT 7 [0, 2, 8, 9, 13, 14, 15, 66] [(0, (.ptr 0 0)), (2, (aI v2)), (8, (.ptr 1 0)), (9, (.ptr 2 0)), (13, (.sl (l69 v1))), (14, (aI ((l69 v1).length : Int))), (15, (aI v15)), (66, (.bool (((l57 v22).length : Int) != v28)))] ?_
                            refine zO (jQ hT h15) ?_
                            refine zm hT 3 [0, 2, 8, 9, 13, 14, 15, 67, 70] [(0, (.ptr 0 0)), (2, (aI v2)), (8, (.ptr 1 0)), (9, (.ptr 2 0)), (13, (.sl (l69 v1))), (14, (aI ((l69 v1).length : Int))), (15, (aI v15)), (67, (.bool false)), (70, (.bool (!v29)))] ?_
                            refine zO (jQ hT h16) ?_
                            refine zm hT 6 [0, 2, 8, 9, 13, 14, 15, 77] [(0, (.ptr 0 0)), (2, (aI v2)), (8, (.ptr 1 0)), (9, (.ptr 2 0)), (13, (.sl (l69 v1))), (14, (aI ((l69 v1).length : Int))), (15, (aI v15)), (77, (.bool (decide (((l69 v23).length : Int) > 0))))] ?_
                            refine zO (jQ hT h17) ?_
                            refine zm hT 3 [0, 2, 8, 13, 14, 15, 78, 81] [(0, (.ptr 0 0)), (2, (aI v2)), (8, (.ptr 1 0)), (13, (.sl (l69 v1))), (14, (aI ((l69 v1).length : Int))), (15, (aI v15)), (78, (.bool false)), (81, (.bool (!v30)))] ?_
                            refine zO (jQ hT h18) ?_
                            refine ze hT 6 [0, 2, 8, 13, 14, 15, 88] [(0, (.ptr 0 0)), (2, (aI v2)), (8, (.ptr 1 0)), (13, (.sl (l69 v1))), (14, (aI ((l69 v1).length : Int))), (15, (aI v15)), (88, (.bool (decide (((l69 v24).length : Int) > 0))))] ?_
                            refine zK [0, 2, 8, 13, 14, 15, 88] [(0, (.ptr 0 0)), (2, (aI v2)), (8, (.ptr 1 0)), (13, (.sl (l69 v1))), (14, (aI ((l69 v1).length : Int))), (15, (aI v15)), (88, (.bool (decide (((l69 v24).length : Int) > 0))))] ?_
                            exact AE_done ⟨v15, (decide (((l69 v24).length : Int) > 0)), v17, v18, v19, v20, v21, v22, v23, v24, v25, v26, v27, v28, v29, v30, rfl, rfl, k6, by omega, h⟩
                          · refine AW_reg ?_
                            refine zm hT 2 [0, 2, 8, 9, 13, 14, 15, 42] [(0, (.ptr 0 0)), (2, (aI v2)), (8, (.ptr 1 0)), (9, (.ptr 2 0)), (13, (.sl (l69 v1))), (14, (aI ((l69 v1).length : Int))), (15, (aI v15)), (42, (.bool (!v31)))] ?_
                            refine zO (jQ hT h10) ?_
                            refine zm hT 4 [0, 2, 8, 9, 13, 14, 15, 43, 45, 47] [(0, (.ptr 0 0)), (2, (aI v2)), (8, (.ptr 1 0)), (9, (.ptr 2 0)), (13, (.sl (l69 v1))), (14, (aI ((l69 v1).length : Int))), (15, (aI v15)), (43, (.bool false)), (45, (.str v20)), (47, (.bool v26))] ?_
                            refine zO (jP Go.Proofs.Try.func120 (F120_ok k6 v20 v26 v48 h11)) ?_
                            refine zm hT 2 [0, 2, 8, 9, 13, 14, 15, 50] [(0, (.ptr 0 0)), (2, (aI v2)), (8, (.ptr 1 0)), (9, (.ptr 2 0)), (13, (.sl (l69 v1))), (14, (aI ((l69 v1).length : Int))), (15, (aI v15)), (50, (.bool (!v48)))] ?_
                            refine zO (jQ hT h12) ?_
                            refine zm hT 4 [0, 2, 8, 9, 13, 14, 15, 51, 53, 55] [(0, (.ptr 0 0)), (2, (aI v2)), (8, (.ptr 1 0)), (9, (.ptr 2 0)), (13, (.sl (l69 v1))), (14, (aI ((l69 v1).length : Int))), (15, (aI v15)), (51, (.bool false)), (53, (.str v21)), (55, (.bool v27))] ?_
                            refine zO (jP Go.Proofs.Try.func120 (F120_ok k6 v21 v27 v49 h13)) ?_
                            refine zm hT 2 [0, 2, 8, 9, 13, 14, 15, 58] [(0, (.ptr 0 0)), (2, (aI v2)), (8, (.ptr 1 0)), (9, (.ptr 2 0)), (13, (.sl (l69 v1))), (14, (aI ((l69 v1).length : Int))), (15, (aI v15)), (58, (.bool (!v49)))] ?_
                            refine zO (jQ hT h14) ?_
                            refine zm hT 7 [0, 2, 8, 9, 13, 14, 15, 66] [(0, (.ptr 0 0)), (2, (aI v2)), (8, (.ptr 1 0)), (9, (.ptr 2 0)), (13, (.sl (l69 v1))), (14, (aI ((l69 v1).length : Int))), (15, (aI v15)), (66, (.bool (((l57 v22).length : Int) != v28)))] ?_
                            refine zO (jQ hT h15) ?_
                            refine zm hT 3 [0, 2, 8, 9, 13, 14, 15, 67, 70] [(0, (.ptr 0 0)), (2, (aI v2)), (8, (.ptr 1 0)), (9, (.ptr 2 0)), (13, (.sl (l69 v1))), (14, (aI ((l69 v1).length : Int))), (15, (aI v15)), (67, (.bool false)), (70, (.bool (!v29)))] ?_
                            refine zO (jQ hT h16) ?_
                            refine zm hT 6 [0, 2, 8, 9, 13, 14, 15, 77] [(0, (.ptr 0 0)), (2, (aI v2)), (8, (.ptr 1 0)), (9, (.ptr 2 0)), (13, (.sl (l69 v1))), (14, (aI ((l69 v1).length : Int))), (15, (aI v15)), (77, (.bool (decide (((l69 v23).length : Int) > 0))))] ?_
                            refine zO (jQ hT h17) ?_
                            refine zm hT 3 [0, 2, 8, 13, 14, 15, 78, 81] [(0, (.ptr 0 0)), (2, (aI v2)), (8, (.ptr 1 0)), (13, (.sl (l69 v1))), (14, (aI ((l69 v1).length : Int))), (15, (aI v15)), (78, (.bool false)), (81, (.bool (!v30)))] ?_
                            refine zO (jQ hT h18) ?_
                            refine ze hT 6 [0, 2, 8, 13, 14, 15, 88] [(0, (.ptr 0 0)), (2, (aI v2)), (8, (.ptr 1 0)), (13, (.sl (l69 v1))), (14, (aI ((l69 v1).length : Int))), (15, (aI v15)), (88, (.bool false))] ?_
                            refine zK [0, 2, 8, 13, 14, 15, 88] [(0, (.ptr 0 0)), (2, (aI v2)), (8, (.ptr 1 0)), (13, (.sl (l69 v1))), (14, (aI ((l69 v1).length : Int))), (15, (aI v15)), (88, (.bool false))] ?_
                            exact AE_done ⟨v15, false, v17, v18, v19, v20, v21, v22, v23, v24, v25, v26, v27, v28, v29, v30, rfl, rfl, k6, by omega, h⟩
                      · rcases bif_split h with ⟨h19, h⟩ | ⟨h19, h⟩
                        · refine AW_reg ?_
                          refine zm hT 2 [0, 2, 8, 9, 13, 14, 15, 42] [(0, (.ptr 0 0)), (2, (aI v2)), (8, (.ptr 1 0)), (9, (.ptr 2 0)), (13, (.sl (l69 v1))), (14, (aI ((l69 v1).length : Int))), (15, (aI v15)), (42, (.bool (!v31)))] ?_
                          refine zO (jQ hT h10) ?_
                          refine zm hT 4 [0, 2, 8, 9, 13, 14, 15, 43, 45, 47] [(0, (.ptr 0 0)), (2, (aI v2)), (8, (.ptr 1 0)), (9, (.ptr 2 0)), (13, (.sl (l69 v1))), (14, (aI ((l69 v1).length : Int))), (15, (aI v15)), (43, (.bool false)), (45, (.str v20)), (47, (.bool v26))] ?_
                          refine zO (jP Go.Proofs.Try.func120 (F120_ok k6 v20 v26 v48 h11)) ?_
                          refine zm hT 2 [0, 2, 8, 9, 13, 14, 15, 50] [(0, (.ptr 0 0)), (2, (aI v2)), (8, (.ptr 1 0)), (9, (.ptr 2 0)), (13, (.sl (l69 v1))), (14, (aI ((l69 v1).length : Int))), (15, (aI v15)), (50, (.bool (!v48)))] ?_
                          refine zO (jQ hT h12) ?_
                          refine zm hT 4 [0, 2, 8, 9, 13, 14, 15, 51, 53, 55] [(0, (.ptr 0 0)), (2, (aI v2)), (8, (.ptr 1 0)), (9, (.ptr 2 0)), (13, (.sl (l69 v1))), (14, (aI ((l69 v1).length : Int))), (15, (aI v15)), (51, (.bool false)), (53, (.str v21)), (55, (.bool v27))] ?_
                          refine zO (jP Go.Proofs.Try.func120 (F120_ok k6 v21 v27 v49 h13)) ?_
                          refine zm hT 2 [0, 2, 8, 9, 13, 14, 15, 58] [(0, (.ptr 0 0)), (2, (aI v2)), (8, (.ptr 1 0)), (9, (.ptr 2 0)), (13, (.sl (l69 v1))), (14, (aI ((l69 v1).length : Int))), (15, (aI v15)), (58, (.bool (!v49)))] ?_
                          refine zO (jQ hT h14) ?_
                          refine zm hT 7 [0, 2, 8, 9, 13, 14, 15, 66] [(0, (.ptr 0 0)), (2, (aI v2)), (8, (.ptr 1 0)), (9, (.ptr 2 0)), (13, (.sl (l69 v1))), (14, (aI ((l69 v1).length : Int))), (15, (aI v15)), (66, (.bool (((l57 v22).length : Int) != v28)))] ?_
                          refine zO (jQ hT h15) ?_
                          refine zm hT 3 [0, 2, 8, 9, 13, 14, 15, 67, 70] [(0, (.ptr 0 0)), (2, (aI v2)), (8, (.ptr 1 0)), (9, (.ptr 2 0)), (13, (.sl (l69 v1))), (14, (aI ((l69 v1).length : Int))), (15, (aI v15)), (67, (.bool false)), (70, (.bool (!v29)))] ?_
                          refine zO (jQ hT h16) ?_
                          refine zm hT 10 [0, 2, 8, 13, 14, 15, 78, 81] [(0, (.ptr 0 0)), (2, (aI v2)), (8, (.ptr 1 0)), (13, (.sl (l69 v1))), (14, (aI ((l69 v1).length : Int))), (15, (aI v15)), (78, (.bool false)), (81, (.bool (!v30)))] ?_
                          refine zO (jQ hT h19) ?_
                          refine ze hT 6 [0, 2, 8, 13, 14, 15, 88] [(0, (.ptr 0 0)), (2, (aI v2)), (8, (.ptr 1 0)), (13, (.sl (l69 v1))), (14, (aI ((l69 v1).length : Int))), (15, (aI v15)), (88, (.bool (decide (((l69 v24).length : Int) > 0))))] ?_
                          refine zK [0, 2, 8, 13, 14, 15, 88] [(0, (.ptr 0 0)), (2, (aI v2)), (8, (.ptr 1 0)), (13, (.sl (l69 v1))), (14, (aI ((l69 v1).length : Int))), (15, (aI v15)), (88, (.bool (decide (((l69 v24).length : Int) > 0))))] ?_
                          exact AE_done ⟨v15, (decide (((l69 v24).length : Int) > 0)), v17, v18, v19, v20, v21, v22, v23, v24, v25, v26, v27, v28, v29, v30, rfl, rfl, k6, by omega, h⟩
                        · refine AW_reg ?_
                          refine zm hT 2 [0, 2, 8, 9, 13, 14, 15, 42] [(0, (.ptr 0 0)), (2, (aI v2)), (8, (.ptr 1 0)), (9, (.ptr 2 0)), (13, (.sl (l69 v1))), (14, (aI ((l69 v1).length : Int))), (15, (aI v15)), (42, (.bool (!v31)))] ?_
                          refine zO (jQ hT h10) ?_
                          refine zm hT 4 [0, 2, 8, 9, 13, 14, 15, 43, 45, 47] [(0, (.ptr 0 0)), (2, (aI v2)), (8, (.ptr 1 0)), (9, (.ptr 2 0)), (13, (.sl (l69 v1))), (14, (aI ((l69 v1).length : Int))), (15, (aI v15)), (43, (.bool false)), (45, (.str v20)), (47, (.bool v26))] ?_
                          refine zO (jP Go.Proofs.Try.func120 (F120_ok k6 v20 v26 v48 h11)) ?_
                          refine zm hT 2 [0, 2, 8, 9, 13, 14, 15, 50] [(0, (.ptr 0 0)), (2, (aI v2)), (8, (.ptr 1 0)), (9, (.ptr 2 0)), (13, (.sl (l69 v1))), (14, (aI ((l69 v1).length : Int))), (15, (aI v15)), (50, (.bool (!v48)))] ?_
                          refine zO (jQ hT h12) ?_
                          refine zm hT 4 [0, 2, 8, 9, 13, 14, 15, 51, 53, 55] [(0, (.ptr 0 0)), (2, (aI v2)), (8, (.ptr 1 0)), (9, (.ptr 2 0)), (13, (.sl (l69 v1))), (14, (aI ((l69 v1).length : Int))), (15, (aI v15)), (51, (.bool false)), (53, (.str v21)), (55, (.bool v27))] ?_
                          refine zO (jP Go.Proofs.Try.func120 (F120_ok k6 v21 v27 v49 h13)) ?_
                          refine zm hT 2 [0, 2, 8, 9, 13, 14, 15, 58] [(0, (.ptr 0 0)), (2, (aI v2)), (8, (.ptr 1 0)), (9, (.ptr 2 0)), (13, (.sl (l69 v1))), (14, (aI ((l69 v1).length : Int))), (15, (aI v15)), (58, (.bool (!v49)))] ?_
                          refine zO (jQ hT h14) ?_
                          refine zm hT 7 [0, 2, 8, 9, 13, 14, 15, 66] [(0, (.ptr 0 0)), (2, (aI v2)), (8, (.ptr 1 0)), (9, (.ptr 2 0)), (13, (.sl (l69 v1))), (14, (aI ((l69 v1).length : Int))), (15, (aI v15)), (66, (.bool (((l57 v22).length : Int) != v28)))] ?_
                          refine zO (jQ hT h15) ?_
                          refine zm hT 3 [0, 2, 8, 9, 13, 14, 15, 67, 70] [(0, (.ptr 0 0)), (2, (aI v2)), (8, (.ptr 1 0)), (9, (.ptr 2 0)), (13, (.sl (l69 v1))), (14, (aI ((l69 v1).length : Int))), (15, (aI v15)), (67, (.bool false)), (70, (.bool (!v29)))] ?_
                          refine zO (jQ hT h16) ?_
                          refine zm hT 10 [0, 2, 8, 13, 14, 15, 78, 81] [(0, (.ptr 0 0)), (2, (aI v2)), (8, (.ptr 1 0)), (13, (.sl (l69 v1))), (14, (aI ((l69 v1).length : Int))), (15, (aI v15)), (78, (.bool false)), (81, (.bool (!v30)))] ?_
                          refine zO (jQ hT h19) ?_
                          refine ze hT 6 [0, 2, 8, 13, 14, 15, 88] [(0, (.ptr 0 0)), (2, (aI v2)), (8, (.ptr 1 0)), (13, (.sl (l69 v1))), (14, (aI ((l69 v1).length : Int))), (15, (aI v15)), (88, (.bool false))] ?_
                          refine zK [0, 2, 8, 13, 14, 15, 88] [(0, (.ptr 0 0)), (2, (aI v2)), (8, (.ptr 1 0)), (13, (.sl (l69 v1))), (14, (aI ((l69 v1).length : Int))), (15, (aI v15)), (88, (.bool false))] ?_
                          exact AE_done ⟨v15, false, v17, v18, v19, v20, v21, v22, v23, v24, v25, v26, v27, v28, v29, v30, rfl, rfl, k6, by omega, h⟩
            · rintro _ _ ⟨v32, v33, v34, v35, v36, v37, v38, v39, v40, v41, v42, v43, v44, v45, v46, v47, rfl, rfl, n, hn, h⟩
              obtain _ | k20 := n
              · rw [F76_j2] at h; cases h
              have h21 : k20 < (k + 1) := by omega
              rw [F76_j2] at h
              rcases bif_split h with ⟨h22, h⟩ | ⟨h22, h⟩
              · refine zT h22 ?_
                refine zs hT [6] [(6, (.bool false))] ?_
                refine AE_ret ?_
                refine AE_seqR ?_
                refine AE_blkR ?_
                refine AE_seqR ?_
                refine AE_seqR ?_
                refine AE_blkR ?_
                refine AE_seqR ?_
                refine zK [6] [(6, (.bool false))] ?_
                simp only [Option.some.injEq, Prod.mk.injEq] at h
                obtain ⟨rfl, rfl, rfl⟩ := h
                exact zEnd
              · refine zN h22 ?_
                refine AE_skip ?_
                refine AE_seqN ?_
                refine AW_seq ?_
                refine zs hT [0, 2, 8, 13, 14, 15, 90, 91, 92] [(0, (.ptr 0 0)), (2, (aI v2)), (8, (.ptr 1 0)), (13, (.sl (l69 v1))), (14, (aI ((l69 v1).length : Int))), (15, (aI v32)), (90, (.sl (l57 v39))), (91, (aI ((l57 v39).length : Int))), (92, (aI 0))] ?_
                refine AW_block ?_
                refine zKw [0, 2, 8, 13, 14, 15, 90, 91, 92] [(0, (.ptr 0 0)), (2, (aI v2)), (8, (.ptr 1 0)), (13, (.sl (l69 v1))), (14, (aI ((l69 v1).length : Int))), (15, (aI v32)), (90, (.sl (l57 v39))), (91, (aI ((l57 v39).length : Int))), (92, (aI 0))] ?_
                refine AW_loop (fun n env L => n ≤ k20 ∧ ∃ (v50 : Int) (v51 : Int), env = [(0, (.ptr 0 0)), (2, (aI v2)), (8, (.ptr 1 0)), (13, (.sl (l69 v1))), (14, (aI ((l69 v1).length : Int))), (15, (aI v32)), (90, (.sl (l57 v39))), (91, (aI ((l57 v39).length : Int))), (92, (aI v50))] ∧ L = [.cells [(aI v34), (aI v51)], .cells [(aI v36), (.str v37), (.str v38), (.sl (l57 v39)), (.sl (l69 v40)), (.sl (l69 v41)), (aI v42)], .cells [(.bool v43), (.bool v44), (aI v45), (.bool v46), (.bool v47)]] ∧ F76_l3 n v2 v1 v32 v39 v34 v40 v41 v50 v51 = some (r1, r2, r3)) k20 ⟨Nat.le_refl _, 0, v35, rfl, rfl, h⟩ ?_
                rintro n _ _ ⟨hn, v50, v51, rfl, rfl, h⟩
                cases n with
                | zero => rw [F76_l3] at h; cases h
                | succ k23 =>
                  have h24 : k23 < (k + 1) := by omega
                  rw [F76_l3] at h
                  refine zs hT [0, 2, 8, 13, 14, 15, 90, 91, 92, 93] [(0, (.ptr 0 0)), (2, (aI v2)), (8, (.ptr 1 0)), (13, (.sl (l69 v1))), (14, (aI ((l69 v1).length : Int))), (15, (aI v32)), (90, (.sl (l57 v39))), (91, (aI ((l57 v39).length : Int))), (92, (aI v50)), (93, (.bool (decide (v50 < ((l57 v39).length : Int)))))] ?_
                  refine AW_seq ?_
                  rcases bif_split h with ⟨h25, h⟩ | ⟨h25, h⟩
                  · refine zT h25 ?_
                    refine AE_skip ?_
                    refine AE_seqN ?_
                    refine AW_seq ?_
                    refine AW_block ?_
                    refine AW_seq ?_
                    obtain ⟨⟨v52, v53, v54, v55, v56, v57⟩, h26, h⟩ := bsm h
                    try dsimp only at h
                    refine AW_reg ?_
                    refine zO (jX hT 6 (i57 h26)) ?_
                    refine zE hT 3 [0, 2, 8, 12, 13, 14, 15, 90, 91, 92] [(0, (.ptr 0 0)), (2, (aI v2)), (8, (.ptr 1 0)), (12, (.ptr 3 0)), (13, (.sl (l69 v1))), (14, (aI ((l69 v1).length : Int))), (15, (aI v32)), (90, (.sl (l57 v39))), (91, (aI ((l57 v39).length : Int))), (92, (aI v50))] [.cells [(aI v34), (aI v51)], .cells [(aI v36), (.str v37), (.str v38), (.sl (l57 v39)), (.sl (l69 v40)), (.sl (l69 v41)), (aI v42)], .cells [(.bool v43), (.bool v44), (aI v45), (.bool v46), (.bool v47)], .cells [(aI v52), (.str v53), (aI v54), (.str v55), (.sl (l57 v56)), (aI v57)]] ?_
                    refine AE_seqN ?_
                    refine AW_seq ?_
                    obtain ⟨⟨v58, v59⟩, h27, h⟩ := bsm h
                    try dsimp only at h
                    refine AW_reg ?_
                    refine zm hT 2 [0, 2, 8, 13, 14, 15, 90, 91, 92, 96, 97] [(0, (.ptr 0 0)), (2, (aI v2)), (8, (.ptr 1 0)), (13, (.sl (l69 v1))), (14, (aI ((l69 v1).length : Int))), (15, (aI v32)), (90, (.sl (l57 v39))), (91, (aI ((l57 v39).length : Int))), (92, (aI v50)), (96, (.ptr 0 0)), (97, (.agg [(aI v52), (.str v53), (aI v54), (.str v55), (.sl (l57 v56)), (aI v57)]))] ?_
                    refine zO (jC Go.Proofs.Try.func61 (Fn_in (L := [.cells [(aI v34), (aI v51)], .cells [(aI v36), (.str v37), (.str v38), (.sl (l57 v39)), (.sl (l69 v40)), (.sl (l69 v41)), (aI v42)], .cells [(.bool v43), (.bool v44), (aI v45), (.bool v46), (.bool v47)], .cells [(aI v52), (.str v53), (aI v54), (.str v55), (.sl (l57 v56)), (aI v57)]]) (args' := [(.ptr 0 0), (.agg [(aI v52), (.str v53), (aI v54), (.str v55), (.sl (l57 v56)), (aI v57)]), (aI 12)]) (res' := (.bool v58)) (L'' := [.cells [(aI v34), (aI v59)], .cells [(aI v36), (.str v37), (.str v38), (.sl (l57 v39)), (.sl (l69 v40)), (.sl (l69 v41)), (aI v42)], .cells [(.bool v43), (.bool v44), (aI v45), (.bool v46), (.bool v47)], .cells [(aI v52), (.str v53), (aI v54), (.str v55), (.sl (l57 v56)), (aI v57)]]) [0] (F61_ok k23 v52 v53 v54 v55 v56 v57 12 v34 v51 v58 v59 h27) rfl (by decide) ⟨(by simp [AV.ren, AV.rens, AObj.ren, gname]), trivial⟩ (by simp [AV.low, AV.lows, AObj.low]) (by simp [AV.low, AV.lows, AObj.low]) (by kernel_rfl) (by simp [AV.ren, AV.rens, AObj.ren, gname, putBack]) (by simp [AV.ren, AV.rens, AObj.ren, gname, putBack]) (by simp [AV.ren, AV.rens, AObj.ren, gname, putBack]))) ?_
                    refine ze hT 1 [0, 2, 8, 13, 14, 15, 90, 91, 92, 99] [(0, (.ptr 0 0)), (2, (aI v2)), (8, (.ptr 1 0)), (13, (.sl (l69 v1))), (14, (aI ((l69 v1).length : Int))), (15, (aI v32)), (90, (.sl (l57 v39))), (91, (aI ((l57 v39).length : Int))), (92, (aI v50)), (99, (.bool (!v58)))] ?_
                    refine AE_seqN ?_
                    rcases bif_split h with ⟨h28, h⟩ | ⟨h28, h⟩
                    · refine zT h28 ?_
                      refine zs hT [6] [(6, (.bool false))] ?_
                      refine AE_ret ?_
                      refine AE_blkR ?_
                      refine AE_seqR ?_
                      refine AE_seqR ?_
                      refine AE_blkR ?_
                      refine AE_seqR ?_
                      refine AE_blkR ?_
                      refine AE_seqR ?_
                      refine AE_seqR ?_
                      refine AE_blkR ?_
                      refine AE_seqR ?_
                      refine zK [6] [(6, (.bool false))] ?_
                      simp only [Option.some.injEq, Prod.mk.injEq] at h
                      obtain ⟨rfl, rfl, rfl⟩ := h
                      exact zEnd
                    · refine zN h28 ?_
                      refine AE_skip ?_
                      refine AE_blkN ?_
                      refine AE_seqN ?_
                      refine zr hT [0, 2, 8, 13, 14, 15, 90, 91, 92] [(0, (.ptr 0 0)), (2, (aI v2)), (8, (.ptr 1 0)), (13, (.sl (l69 v1))), (14, (aI ((l69 v1).length : Int))), (15, (aI v32)), (90, (.sl (l57 v39))), (91, (aI ((l57 v39).length : Int))), (92, (aI (IntKind.wrap .i64 (v50 + 1))))] ?_
                      refine zK [0, 2, 8, 13, 14, 15, 90, 91, 92] [(0, (.ptr 0 0)), (2, (aI v2)), (8, (.ptr 1 0)), (13, (.sl (l69 v1))), (14, (aI ((l69 v1).length : Int))), (15, (aI v32)), (90, (.sl (l57 v39))), (91, (aI ((l57 v39).length : Int))), (92, (aI (IntKind.wrap .i64 (v50 + 1))))] ?_
                      refine zD 3 [.cells [(aI v34), (aI v59)], .cells [(aI v36), (.str v37), (.str v38), (.sl (l57 v39)), (.sl (l69 v40)), (.sl (l69 v41)), (aI v42)], .cells [(.bool v43), (.bool v44), (aI v45), (.bool v46), (.bool v47)]] ?_
                      exact AE_done ⟨k23, by omega, by omega, (IntKind.wrap .i64 (v50 + 1)), v59, rfl, rfl, h⟩
                  · refine zN h25 ?_
                    refine AE_exit ?_
                    refine AE_seqX ?_
                    refine AE_seqX ?_
                    refine AE_blkH ?_
                    refine AE_seqN ?_
                    refine AW_join (fun env L => ∃ (v60 : Int) (v61 : Bool) (v62 : Int) (v63 : Int) (v64 : Int) (v65 : ByteArray) (v66 : ByteArray) (v67 : (List T57)) (v68 : (List T69)) (v69 : (List T69)) (v70 : Int) (v71 : Bool) (v72 : Bool) (v73 : Int) (v74 : Bool) (v75 : Bool), env = [(0, (.ptr 0 0)), (2, (aI v2)), (13, (.sl (l69 v1))), (14, (aI ((l69 v1).length : Int))), (15, (aI v60)), (116, (.bool v61))] ∧ L = [.cells [(aI v62), (aI v63)], .cells [(aI v64), (.str v65), (.str v66), (.sl (l57 v67)), (.sl (l69 v68)), (.sl (l69 v69)), (aI v70)], .cells [(.bool v71), (.bool v72), (aI v73), (.bool v74), (.bool v75)]] ∧ ∃ n, n ≤ k23 ∧ F76_j4 n v2 v1 v60 v61 v62 v63 = some (r1, r2, r3)) ?_ ?_
                    · obtain ⟨⟨v76, v77, v78⟩, h29, h⟩ := bsm h
                      try dsimp only at h
                      rcases bif_split h with ⟨h30, h⟩ | ⟨h30, h⟩
                      · refine AW_reg ?_
                        refine zm hT 5 [0, 2, 8, 13, 14, 15, 101, 103, 105] [(0, (.ptr 0 0)), (2, (aI v2)), (8, (.ptr 1 0)), (13, (.sl (l69 v1))), (14, (aI ((l69 v1).length : Int))), (15, (aI v32)), (101, (.ptr 0 0)), (103, (.sl (l69 v40))), (105, (aI (IntKind.wrap .i64 (v2 - 1))))] ?_
                        refine zO (jC Go.Proofs.Try.func76 (Fn_in (L := [.cells [(aI v34), (aI v51)], .cells [(aI v36), (.str v37), (.str v38), (.sl (l57 v39)), (.sl (l69 v40)), (.sl (l69 v41)), (aI v42)], .cells [(.bool v43), (.bool v44), (aI v45), (.bool v46), (.bool v47)]]) (args' := [(.ptr 0 0), (.sl (l69 v40)), (aI (IntKind.wrap .i64 (v2 - 1)))]) (res' := (.bool v76)) (L'' := [.cells [(aI v77), (aI v78)], .cells [(aI v36), (.str v37), (.str v38), (.sl (l57 v39)), (.sl (l69 v40)), (.sl (l69 v41)), (aI v42)], .cells [(.bool v43), (.bool v44), (aI v45), (.bool v46), (.bool v47)]]) [0] (ih_F76 k23 h24 v40 (IntKind.wrap .i64 (v2 - 1)) v34 v51 v76 v77 v78 h29) rfl (by decide) ⟨(by simp [AV.ren, AV.rens, AObj.ren, gname]), trivial⟩ (by simp [AV.low, AV.lows, AObj.low]) (by simp [AV.low, AV.lows, AObj.low]) (by kernel_rfl) (by simp [AV.ren, AV.rens, AObj.ren, gname, putBack]) (by simp [AV.ren, AV.rens, AObj.ren, gname, putBack]) (by simp [AV.ren, AV.rens, AObj.ren, gname, putBack]))) ?_
                        refine zm hT 1 [0, 2, 8, 13, 14, 15, 107] [(0, (.ptr 0 0)), (2, (aI v2)), (8, (.ptr 1 0)), (13, (.sl (l69 v1))), (14, (aI ((l69 v1).length : Int))), (15, (aI v32)), (107, (.bool (!v76)))] ?_
                        refine zO (jQ hT h30) ?_
                        refine ze hT 8 [0, 2, 13, 14, 15, 116] [(0, (.ptr 0 0)), (2, (aI v2)), (13, (.sl (l69 v1))), (14, (aI ((l69 v1).length : Int))), (15, (aI v32)), (116, (.bool true))] ?_
                        refine zK [0, 2, 13, 14, 15, 116] [(0, (.ptr 0 0)), (2, (aI v2)), (13, (.sl (l69 v1))), (14, (aI ((l69 v1).length : Int))), (15, (aI v32)), (116, (.bool true))] ?_
                        exact AE_done ⟨v32, true, v77, v78, v36, v37, v38, v39, v40, v41, v42, v43, v44, v45, v46, v47, rfl, rfl, k23, by omega, h⟩
                      · obtain ⟨⟨v79, v80, v81⟩, h31, h⟩ := bsm h
                        try dsimp only at h
                        refine AW_reg ?_
                        refine zm hT 5 [0, 2, 8, 13, 14, 15, 101, 103, 105] [(0, (.ptr 0 0)), (2, (aI v2)), (8, (.ptr 1 0)), (13, (.sl (l69 v1))), (14, (aI ((l69 v1).length : Int))), (15, (aI v32)), (101, (.ptr 0 0)), (103, (.sl (l69 v40))), (105, (aI (IntKind.wrap .i64 (v2 - 1))))] ?_
                        refine zO (jC Go.Proofs.Try.func76 (Fn_in (L := [.cells [(aI v34), (aI v51)], .cells [(aI v36), (.str v37), (.str v38), (.sl (l57 v39)), (.sl (l69 v40)), (.sl (l69 v41)), (aI v42)], .cells [(.bool v43), (.bool v44), (aI v45), (.bool v46), (.bool v47)]]) (args' := [(.ptr 0 0), (.sl (l69 v40)), (aI (IntKind.wrap .i64 (v2 - 1)))]) (res' := (.bool v76)) (L'' := [.cells [(aI v77), (aI v78)], .cells [(aI v36), (.str v37), (.str v38), (.sl (l57 v39)), (.sl (l69 v40)), (.sl (l69 v41)), (aI v42)], .cells [(.bool v43), (.bool v44), (aI v45), (.bool v46), (.bool v47)]]) [0] (ih_F76 k23 h24 v40 (IntKind.wrap .i64 (v2 - 1)) v34 v51 v76 v77 v78 h29) rfl (by decide) ⟨(by simp [AV.ren, AV.rens, AObj.ren, gname]), trivial⟩ (by simp [AV.low, AV.lows, AObj.low]) (by simp [AV.low, AV.lows, AObj.low]) (by kernel_rfl) (by simp [AV.ren, AV.rens, AObj.ren, gname, putBack]) (by simp [AV.ren, AV.rens, AObj.ren, gname, putBack]) (by simp [AV.ren, AV.rens, AObj.ren, gname, putBack]))) ?_
                        refine zm hT 1 [0, 2, 8, 13, 14, 15, 107] [(0, (.ptr 0 0)), (2, (aI v2)), (8, (.ptr 1 0)), (13, (.sl (l69 v1))), (14, (aI ((l69 v1).length : Int))), (15, (aI v32)), (107, (.bool (!v76)))] ?_
                        refine zO (jQ hT h30) ?_
                        refine zm hT 5 [0, 2, 13, 14, 15, 108, 109, 111, 113] [(0, (.ptr 0 0)), (2, (aI v2)), (13, (.sl (l69 v1))), (14, (aI ((l69 v1).length : Int))), (15, (aI v32)), (108, (.bool false)), (109, (.ptr 0 0)), (111, (.sl (l69 v41))), (113, (aI (IntKind.wrap .i64 (v2 - 1))))] ?_
                        refine zO (jC Go.Proofs.Try.func76 (Fn_in (L := [.cells [(aI v77), (aI v78)], .cells [(aI v36), (.str v37), (.str v38), (.sl (l57 v39)), (.sl (l69 v40)), (.sl (l69 v41)), (aI v42)], .cells [(.bool v43), (.bool v44), (aI v45), (.bool v46), (.bool v47)]]) (args' := [(.ptr 0 0), (.sl (l69 v41)), (aI (IntKind.wrap .i64 (v2 - 1)))]) (res' := (.bool v79)) (L'' := [.cells [(aI v80), (aI v81)], .cells [(aI v36), (.str v37), (.str v38), (.sl (l57 v39)), (.sl (l69 v40)), (.sl (l69 v41)), (aI v42)], .cells [(.bool v43), (.bool v44), (aI v45), (.bool v46), (.bool v47)]]) [0] (ih_F76 k23 h24 v41 (IntKind.wrap .i64 (v2 - 1)) v77 v78 v79 v80 v81 h31) rfl (by decide) ⟨(by simp [AV.ren, AV.rens, AObj.ren, gname]), trivial⟩ (by simp [AV.low, AV.lows, AObj.low]) (by simp [AV.low, AV.lows, AObj.low]) (by kernel_rfl) (by simp [AV.ren, AV.rens, AObj.ren, gname, putBack]) (by simp [AV.ren, AV.rens, AObj.ren, gname, putBack]) (by simp [AV.ren, AV.rens, AObj.ren, gname, putBack]))) ?_
                        refine ze hT 2 [0, 2, 13, 14, 15, 116] [(0, (.ptr 0 0)), (2, (aI v2)), (13, (.sl (l69 v1))), (14, (aI ((l69 v1).length : Int))), (15, (aI v32)), (116, (.bool (!v79)))] ?_
                        refine zK [0, 2, 13, 14, 15, 116] [(0, (.ptr 0 0)), (2, (aI v2)), (13, (.sl (l69 v1))), (14, (aI ((l69 v1).length : Int))), (15, (aI v32)), (116, (.bool (!v79)))] ?_
                        exact AE_done ⟨v32, (!v79), v80, v81, v36, v37, v38, v39, v40, v41, v42, v43, v44, v45, v46, v47, rfl, rfl, k23, by omega, h⟩
                    · rintro _ _ ⟨v60, v61, v62, v63, v64, v65, v66, v67, v68, v69, v70, v71, v72, v73, v74, v75, rfl, rfl, n, hn, h⟩
                      obtain _ | k32 := n
                      · rw [F76_j4] at h; cases h
                      have h33 : k32 < (k + 1) := by omega
                      rw [F76_j4] at h
                      rcases bif_split h with ⟨h34, h⟩ | ⟨h34, h⟩
                      · refine zT h34 ?_
                        refine zs hT [6] [(6, (.bool false))] ?_
                        refine AE_ret ?_
                        refine AE_blkR ?_
                        refine AE_seqR ?_
                        refine AE_seqR ?_
                        refine AE_blkR ?_
                        refine AE_seqR ?_
                        refine zK [6] [(6, (.bool false))] ?_
                        simp only [Option.some.injEq, Prod.mk.injEq] at h
                        obtain ⟨rfl, rfl, rfl⟩ := h
                        exact zEnd
                      · refine zN h34 ?_
                        refine AE_skip ?_
                        refine AE_blkN ?_
                        refine AE_seqN ?_
                        refine zr hT [0, 2, 13, 14, 15] [(0, (.ptr 0 0)), (2, (aI v2)), (13, (.sl (l69 v1))), (14, (aI ((l69 v1).length : Int))), (15, (aI (IntKind.wrap .i64 (v60 + 1))))] ?_
                        refine zK [0, 2, 13, 14, 15] [(0, (.ptr 0 0)), (2, (aI v2)), (13, (.sl (l69 v1))), (14, (aI ((l69 v1).length : Int))), (15, (aI (IntKind.wrap .i64 (v60 + 1))))] ?_
                        refine zD 1 [.cells [(aI v62), (aI v63)]] ?_
                        exact AE_done ⟨k32, by omega, by omega, (IntKind.wrap .i64 (v60 + 1)), v62, v63, rfl, rfl, h⟩
      · refine zN h3 ?_
        refine AE_exit ?_
        refine AE_seqX ?_
        refine AE_seqX ?_
        refine AE_blkH ?_
        refine AE_seqN ?_
        refine zs hT [6] [(6, (.bool true))] ?_
        refine AE_ret ?_
        refine zK [6] [(6, (.bool true))] ?_
        simp only [Option.some.injEq, Prod.mk.injEq] at h
        obtain ⟨rfl, rfl, rfl⟩ := h
        exact zEnd

theorem F76_all (K0 : Nat) : (∀ (v1 : (List T69)) (v2 : Int) (v3 : Int) (v4 : Int) (r1 : Bool) (r2 : Int) (r3 : Int), F76 K0 v1 v2 v3 v4 = some (r1, r2, r3) → Fn prog 76 [(.ptr 0 0), (.sl (l69 v1)), (aI v2)] [.cells [(aI v3), (aI v4)]] (.bool r1) [.cells [(aI r2), (aI r3)]]) := by
  induction K0 using Nat.strongRecOn with
  | ind K0 ih => exact F76_step K0 (fun k hk => (ih k hk))

theorem F76_ok (K0 : Nat) : ∀ (v1 : (List T69)) (v2 : Int) (v3 : Int) (v4 : Int) (r1 : Bool) (r2 : Int) (r3 : Int), F76 K0 v1 v2 v3 v4 = some (r1, r2, r3) → Fn prog 76 [(.ptr 0 0), (.sl (l69 v1)), (aI v2)] [.cells [(aI v3), (aI v4)]] (.bool r1) [.cells [(aI r2), (aI r3)]] := (F76_all K0)
end Go.Vm
