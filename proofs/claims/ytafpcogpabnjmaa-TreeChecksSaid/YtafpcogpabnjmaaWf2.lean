/- Printed by gen.py: functions of the program as Lean functions, and that they do what these say. -/
import Derived.Test.YtafpcogpabnjmaaWf1
set_option linter.unusedVariables false
set_option linter.unusedSimpArgs false
set_option linter.unusedSectionVars false
set_option maxRecDepth 20000
namespace Go.Vm
mutual
def F37_j2 : Nat → (List T34) → Int → Bool → Int → Int → Option (Bool × Int × Int)
  | 0, _, _, _, _, _ => none
  | k17 + 1, v3, v12, v13, v14, v15 =>
    (bif v13 then
      some (false, v14, v15)
    else
      F37_l1 k17 v3 (IntKind.wrap .i64 (v12 + 1)) v14 v15)
def F37_l1 : Nat → (List T34) → Int → Int → Int → Option (Bool × Int × Int)
  | 0, _, _, _, _ => none
  | k10 + 1, v3, v6, v7, v8 =>
    (bif (decide (v6 < ((l34 v3).length : Int))) then
      ((idx v3 v6).bind fun ⟨v9, v10, v11⟩ =>
        ((F75 k10 v9).bind fun v19 =>
          (bif (!v19) then
            F37_j2 k10 v3 v6 true v7 v8
          else
            ((F76 k10 v10 12 v7 v8).bind fun ⟨v20, v21, v22⟩ =>
              F37_j2 k10 v3 v6 (!v20) v21 v22))))
    else
      some (true, v7, v8))
end

def F37_j0 (k5 : Nat) (v2 : (List T76)) (v3 : (List T34)) (v4 : Bool) : Option (Bool × Int × Int) :=
  (bif v4 then
    some (false, 0, 0)
  else
    ((F72 k5 v2).bind fun v5 =>
      (bif v5 then
        some (false, 0, 0)
      else
        F37_l1 k5 v3 0 0 0)))

def F37 (k : Nat) (v1 : Int) (v2 : (List T76)) (v3 : (List T34)) : Option (Bool × Int × Int) :=
  (bif (decide (v1 < 0)) then
    F37_j0 k v2 v3 true
  else
    (bif (decide (v1 > 65535)) then
      F37_j0 k v2 v3 true
    else
      (bif (decide (((l76 v2).length : Int) > 12)) then
        F37_j0 k v2 v3 true
      else
        (bif (decide (((l34 v3).length : Int) < 1)) then
          F37_j0 k v2 v3 true
        else
          F37_j0 k v2 v3 (decide (((l34 v3).length : Int) > 6))))))

theorem F37_ok (k : Nat) : ∀ (v1 : Int) (v2 : (List T76)) (v3 : (List T34)) (r1 : Bool) (r2 : Int) (r3 : Int), F37 k v1 v2 v3 = some (r1, r2, r3) → Fn prog 37 [(.agg [(.int .i64 v1), (.sl (l76 v2)), (.sl (l34 v3))])] [] (.tup [(.ptr 1 0), (.bool r1)]) [.cells [(.int .i64 v1), (.sl (l76 v2)), (.sl (l34 v3))], .cells [(.int .i64 r2), (.int .i64 r3)]] := by
  intro v1 v2 v3 r1 r2 r3 h
  rw [F37] at h
  refine Fn_bodyK hT Go.Proofs.Try.func37 (c := Go.Proofs.Try.f37.body.getD .skip) (by kernel_rfl) (by kernel_rfl) (by kernel_rfl) ?_
  refine AW_seq ?_
  refine AW_reg ?_
  refine AR_many hT 3 [1] [(1, (.ptr 0 0))] [.cells [(.int .i64 v1), (.sl (l76 v2)), (.sl (l34 v3))]] (by kernel_rfl) ?_
  refine AR_fin (by kernel_rfl) ?_
  refine AE_seqN ?_
  refine AW_seq ?_
  refine AW_reg ?_
  refine AR_many hT 3 [1, 4] [(1, (.ptr 0 0)), (4, (.ptr 1 0))] [.cells [(.int .i64 v1), (.sl (l76 v2)), (.sl (l34 v3))], .cells [(.int .i64 0), (.int .i64 0)]] (by kernel_rfl) ?_
  refine AR_fin (by kernel_rfl) ?_
  refine AE_seqN ?_
  refine AW_seq ?_
  refine AW_join (fun env L => ∃ (v4 : Bool), env = [(1, (.ptr 0 0)), (4, (.ptr 1 0)), (34, (.bool v4))] ∧ L = [.cells [(.int .i64 v1), (.sl (l76 v2)), (.sl (l34 v3))], .cells [(.int .i64 0), (.int .i64 0)]] ∧ ∃ n, n ≤ k ∧ F37_j0 n v2 v3 v4 = some (r1, r2, r3)) ?_ ?_
  · rcases Bool.eq_false_or_eq_true (decide (v1 < 0)) with h1 | h1
    · replace h := bifT h1 h
      refine AW_reg ?_
      refine AR_many hT 3 [1, 4, 11] [(1, (.ptr 0 0)), (4, (.ptr 1 0)), (11, (.bool (decide (v1 < 0))))] [.cells [(.int .i64 v1), (.sl (l76 v2)), (.sl (l34 v3))], .cells [(.int .i64 0), (.int .i64 0)]] (by kernel_rfl) ?_
      refine AR_op (by kernel_rfl) (OpJ_boolK hT (q := (decide (v1 < 0))) (by kernel_rfl) h1) ?_
      refine AR_many hT 22 [1, 4, 34] [(1, (.ptr 0 0)), (4, (.ptr 1 0)), (34, (.bool true))] [.cells [(.int .i64 v1), (.sl (l76 v2)), (.sl (l34 v3))], .cells [(.int .i64 0), (.int .i64 0)]] (by kernel_rfl) ?_
      refine AR_fin (by kernel_rfl) ?_
      refine AE_keep [1, 4, 34] (env' := [(1, (.ptr 0 0)), (4, (.ptr 1 0)), (34, (.bool true))]) (by kernel_rfl) ?_
      exact AE_done ⟨true, rfl, rfl, k, Nat.le_refl _, h⟩
    · replace h := bifF h1 h
      rcases Bool.eq_false_or_eq_true (decide (v1 > 65535)) with h2 | h2
      · replace h := bifT h2 h
        refine AW_reg ?_
        refine AR_many hT 3 [1, 4, 11] [(1, (.ptr 0 0)), (4, (.ptr 1 0)), (11, (.bool (decide (v1 < 0))))] [.cells [(.int .i64 v1), (.sl (l76 v2)), (.sl (l34 v3))], .cells [(.int .i64 0), (.int .i64 0)]] (by kernel_rfl) ?_
        refine AR_op (by kernel_rfl) (OpJ_boolK hT (q := (decide (v1 < 0))) (by kernel_rfl) h1) ?_
        refine AR_many hT 4 [1, 4, 16] [(1, (.ptr 0 0)), (4, (.ptr 1 0)), (16, (.bool (decide (v1 > 65535))))] [.cells [(.int .i64 v1), (.sl (l76 v2)), (.sl (l34 v3))], .cells [(.int .i64 0), (.int .i64 0)]] (by kernel_rfl) ?_
        refine AR_op (by kernel_rfl) (OpJ_boolK hT (q := (decide (v1 > 65535))) (by kernel_rfl) h2) ?_
        refine AR_many hT 17 [1, 4, 34] [(1, (.ptr 0 0)), (4, (.ptr 1 0)), (34, (.bool true))] [.cells [(.int .i64 v1), (.sl (l76 v2)), (.sl (l34 v3))], .cells [(.int .i64 0), (.int .i64 0)]] (by kernel_rfl) ?_
        refine AR_fin (by kernel_rfl) ?_
        refine AE_keep [1, 4, 34] (env' := [(1, (.ptr 0 0)), (4, (.ptr 1 0)), (34, (.bool true))]) (by kernel_rfl) ?_
        exact AE_done ⟨true, rfl, rfl, k, Nat.le_refl _, h⟩
      · replace h := bifF h2 h
        rcases Bool.eq_false_or_eq_true (decide (((l76 v2).length : Int) > 12)) with h3 | h3
        · replace h := bifT h3 h
          refine AW_reg ?_
          refine AR_many hT 3 [1, 4, 11] [(1, (.ptr 0 0)), (4, (.ptr 1 0)), (11, (.bool (decide (v1 < 0))))] [.cells [(.int .i64 v1), (.sl (l76 v2)), (.sl (l34 v3))], .cells [(.int .i64 0), (.int .i64 0)]] (by kernel_rfl) ?_
          refine AR_op (by kernel_rfl) (OpJ_boolK hT (q := (decide (v1 < 0))) (by kernel_rfl) h1) ?_
          refine AR_many hT 4 [1, 4, 16] [(1, (.ptr 0 0)), (4, (.ptr 1 0)), (16, (.bool (decide (v1 > 65535))))] [.cells [(.int .i64 v1), (.sl (l76 v2)), (.sl (l34 v3))], .cells [(.int .i64 0), (.int .i64 0)]] (by kernel_rfl) ?_
          refine AR_op (by kernel_rfl) (OpJ_boolK hT (q := (decide (v1 > 65535))) (by kernel_rfl) h2) ?_
          refine AR_many hT 5 [1, 4, 22] [(1, (.ptr 0 0)), (4, (.ptr 1 0)), (22, (.bool (decide (((l76 v2).length : Int) > 12))))] [.cells [(.int .i64 v1), (.sl (l76 v2)), (.sl (l34 v3))], .cells [(.int .i64 0), (.int .i64 0)]] (by kernel_rfl) ?_
          refine AR_op (by kernel_rfl) (OpJ_boolK hT (q := (decide (((l76 v2).length : Int) > 12))) (by kernel_rfl) h3) ?_
          refine AR_many hT 11 [1, 4, 34] [(1, (.ptr 0 0)), (4, (.ptr 1 0)), (34, (.bool true))] [.cells [(.int .i64 v1), (.sl (l76 v2)), (.sl (l34 v3))], .cells [(.int .i64 0), (.int .i64 0)]] (by kernel_rfl) ?_
          refine AR_fin (by kernel_rfl) ?_
          refine AE_keep [1, 4, 34] (env' := [(1, (.ptr 0 0)), (4, (.ptr 1 0)), (34, (.bool true))]) (by kernel_rfl) ?_
          exact AE_done ⟨true, rfl, rfl, k, Nat.le_refl _, h⟩
        · replace h := bifF h3 h
          rcases Bool.eq_false_or_eq_true (decide (((l34 v3).length : Int) < 1)) with h4 | h4
          · replace h := bifT h4 h
            refine AW_reg ?_
            refine AR_many hT 3 [1, 4, 11] [(1, (.ptr 0 0)), (4, (.ptr 1 0)), (11, (.bool (decide (v1 < 0))))] [.cells [(.int .i64 v1), (.sl (l76 v2)), (.sl (l34 v3))], .cells [(.int .i64 0), (.int .i64 0)]] (by kernel_rfl) ?_
            refine AR_op (by kernel_rfl) (OpJ_boolK hT (q := (decide (v1 < 0))) (by kernel_rfl) h1) ?_
            refine AR_many hT 4 [1, 4, 16] [(1, (.ptr 0 0)), (4, (.ptr 1 0)), (16, (.bool (decide (v1 > 65535))))] [.cells [(.int .i64 v1), (.sl (l76 v2)), (.sl (l34 v3))], .cells [(.int .i64 0), (.int .i64 0)]] (by kernel_rfl) ?_
            refine AR_op (by kernel_rfl) (OpJ_boolK hT (q := (decide (v1 > 65535))) (by kernel_rfl) h2) ?_
            refine AR_many hT 5 [1, 4, 22] [(1, (.ptr 0 0)), (4, (.ptr 1 0)), (22, (.bool (decide (((l76 v2).length : Int) > 12))))] [.cells [(.int .i64 v1), (.sl (l76 v2)), (.sl (l34 v3))], .cells [(.int .i64 0), (.int .i64 0)]] (by kernel_rfl) ?_
            refine AR_op (by kernel_rfl) (OpJ_boolK hT (q := (decide (((l76 v2).length : Int) > 12))) (by kernel_rfl) h3) ?_
            refine AR_many hT 5 [1, 4, 28] [(1, (.ptr 0 0)), (4, (.ptr 1 0)), (28, (.bool (decide (((l34 v3).length : Int) < 1))))] [.cells [(.int .i64 v1), (.sl (l76 v2)), (.sl (l34 v3))], .cells [(.int .i64 0), (.int .i64 0)]] (by kernel_rfl) ?_
            refine AR_op (by kernel_rfl) (OpJ_boolK hT (q := (decide (((l34 v3).length : Int) < 1))) (by kernel_rfl) h4) ?_
            refine AR_many hT 5 [1, 4, 34] [(1, (.ptr 0 0)), (4, (.ptr 1 0)), (34, (.bool true))] [.cells [(.int .i64 v1), (.sl (l76 v2)), (.sl (l34 v3))], .cells [(.int .i64 0), (.int .i64 0)]] (by kernel_rfl) ?_
            refine AR_fin (by kernel_rfl) ?_
            refine AE_keep [1, 4, 34] (env' := [(1, (.ptr 0 0)), (4, (.ptr 1 0)), (34, (.bool true))]) (by kernel_rfl) ?_
            exact AE_done ⟨true, rfl, rfl, k, Nat.le_refl _, h⟩
          · replace h := bifF h4 h
            refine AW_reg ?_
            refine AR_many hT 3 [1, 4, 11] [(1, (.ptr 0 0)), (4, (.ptr 1 0)), (11, (.bool (decide (v1 < 0))))] [.cells [(.int .i64 v1), (.sl (l76 v2)), (.sl (l34 v3))], .cells [(.int .i64 0), (.int .i64 0)]] (by kernel_rfl) ?_
            refine AR_op (by kernel_rfl) (OpJ_boolK hT (q := (decide (v1 < 0))) (by kernel_rfl) h1) ?_
            refine AR_many hT 4 [1, 4, 16] [(1, (.ptr 0 0)), (4, (.ptr 1 0)), (16, (.bool (decide (v1 > 65535))))] [.cells [(.int .i64 v1), (.sl (l76 v2)), (.sl (l34 v3))], .cells [(.int .i64 0), (.int .i64 0)]] (by kernel_rfl) ?_
            refine AR_op (by kernel_rfl) (OpJ_boolK hT (q := (decide (v1 > 65535))) (by kernel_rfl) h2) ?_
            refine AR_many hT 5 [1, 4, 22] [(1, (.ptr 0 0)), (4, (.ptr 1 0)), (22, (.bool (decide (((l76 v2).length : Int) > 12))))] [.cells [(.int .i64 v1), (.sl (l76 v2)), (.sl (l34 v3))], .cells [(.int .i64 0), (.int .i64 0)]] (by kernel_rfl) ?_
            refine AR_op (by kernel_rfl) (OpJ_boolK hT (q := (decide (((l76 v2).length : Int) > 12))) (by kernel_rfl) h3) ?_
            refine AR_many hT 5 [1, 4, 28] [(1, (.ptr 0 0)), (4, (.ptr 1 0)), (28, (.bool (decide (((l34 v3).length : Int) < 1))))] [.cells [(.int .i64 v1), (.sl (l76 v2)), (.sl (l34 v3))], .cells [(.int .i64 0), (.int .i64 0)]] (by kernel_rfl) ?_
            refine AR_op (by kernel_rfl) (OpJ_boolK hT (q := (decide (((l34 v3).length : Int) < 1))) (by kernel_rfl) h4) ?_
            refine AR_many hT 5 [1, 4, 34] [(1, (.ptr 0 0)), (4, (.ptr 1 0)), (34, (.bool (decide (((l34 v3).length : Int) > 6))))] [.cells [(.int .i64 v1), (.sl (l76 v2)), (.sl (l34 v3))], .cells [(.int .i64 0), (.int .i64 0)]] (by kernel_rfl) ?_
            refine AR_fin (by kernel_rfl) ?_
            refine AE_keep [1, 4, 34] (env' := [(1, (.ptr 0 0)), (4, (.ptr 1 0)), (34, (.bool (decide (((l34 v3).length : Int) > 6))))]) (by kernel_rfl) ?_
            exact AE_done ⟨(decide (((l34 v3).length : Int) > 6)), rfl, rfl, k, Nat.le_refl _, h⟩
  · rintro _ _ ⟨v4, rfl, rfl, n, hn, h⟩
    obtain ⟨k5, rfl⟩ : ∃ q, q = n := ⟨n, rfl⟩
    rw [F37_j0] at h
    rcases Bool.eq_false_or_eq_true v4 with h7 | h7
    · replace h := bifT h7 h
      refine AW_ifT (q := v4) (by kernel_rfl) h7 ?_
      refine AW_seq ?_
      refine AW_reg ?_
      refine AR_many hT 3 [2, 3] [(2, (.ptr 1 0)), (3, (.bool false))] [.cells [(.int .i64 v1), (.sl (l76 v2)), (.sl (l34 v3))], .cells [(.int .i64 0), (.int .i64 0)]] (by kernel_rfl) ?_
      refine AR_fin (by kernel_rfl) ?_
      refine AE_seqN ?_
      refine AE_ret ?_
      refine AE_seqR ?_
      refine AE_keep [2, 3] (env' := [(2, (.ptr 1 0)), (3, (.bool false))]) (by kernel_rfl) ?_
      simp only [Option.some.injEq, Prod.mk.injEq] at h
      obtain ⟨rfl, rfl, rfl⟩ := h
      exact AE_done ⟨trivial, by kernel_rfl, by kernel_rfl, by simp [AV.low, AV.lows, AObj.low], by simp [AV.low, AV.lows, AObj.low]⟩
    · replace h := bifF h7 h
      refine AW_ifF (q := v4) (by kernel_rfl) h7 ?_
      refine AE_skip ?_
      refine AE_seqN ?_
      refine AW_seq ?_
      refine AW_seq ?_
      obtain ⟨v5, h8, h⟩ := Option.bind_eq_some_iff.mp h
      try dsimp only at h
      refine AW_reg ?_
      refine AR_many hT 2 [1, 4, 37] [(1, (.ptr 0 0)), (4, (.ptr 1 0)), (37, (.sl (l76 v2)))] [.cells [(.int .i64 v1), (.sl (l76 v2)), (.sl (l34 v3))], .cells [(.int .i64 0), (.int .i64 0)]] (by kernel_rfl) ?_
      refine AR_op (by kernel_rfl) (OpJ_callK (g := 72) (args := [(.sl (l76 v2)), (.fn 73 [] [])]) (by kernel_rfl) Go.Proofs.Try.func72 (by kernel_rfl) (by kernel_rfl) (Fn_pure (F72_ok k5 v2 v5 h8) (by simp [AV.low, AV.lows, AObj.low]) (by simp [AV.low, AV.lows, AObj.low]))) ?_
      refine AR_fin (by kernel_rfl) ?_
      refine AE_keep [1, 4, 38] (env' := [(1, (.ptr 0 0)), (4, (.ptr 1 0)), (38, (.bool v5))]) (by kernel_rfl) ?_
      refine AE_seqN ?_
      rcases Bool.eq_false_or_eq_true v5 with h9 | h9
      · replace h := bifT h9 h
        refine AW_ifT (q := v5) (by kernel_rfl) h9 ?_
        refine AW_seq ?_
        refine AW_reg ?_
        refine AR_many hT 3 [2, 3] [(2, (.ptr 1 0)), (3, (.bool false))] [.cells [(.int .i64 v1), (.sl (l76 v2)), (.sl (l34 v3))], .cells [(.int .i64 0), (.int .i64 0)]] (by kernel_rfl) ?_
        refine AR_fin (by kernel_rfl) ?_
        refine AE_seqN ?_
        refine AE_ret ?_
        refine AE_seqR ?_
        refine AE_keep [2, 3] (env' := [(2, (.ptr 1 0)), (3, (.bool false))]) (by kernel_rfl) ?_
        simp only [Option.some.injEq, Prod.mk.injEq] at h
        obtain ⟨rfl, rfl, rfl⟩ := h
        exact AE_done ⟨trivial, by kernel_rfl, by kernel_rfl, by simp [AV.low, AV.lows, AObj.low], by simp [AV.low, AV.lows, AObj.low]⟩
      · replace h := bifF h9 h
        refine AW_ifF (q := v5) (by kernel_rfl) h9 ?_
        refine AE_skip ?_
        refine AE_seqN ?_
        refine AW_seq ?_
        refine AW_seq ?_
        refine AW_reg ?_
        refine AR_many hT 4 [4, 41, 42, 43] [(4, (.ptr 1 0)), (41, (.sl (l34 v3))), (42, (.int .i64 ((l34 v3).length : Int))), (43, (.int .i64 0))] [.cells [(.int .i64 v1), (.sl (l76 v2)), (.sl (l34 v3))], .cells [(.int .i64 0), (.int .i64 0)]] (by kernel_rfl) ?_
        refine AR_fin (by kernel_rfl) ?_
        refine AE_seqN ?_
        refine AW_block ?_
        refine AW_keep [4, 41, 42, 43] (env' := [(4, (.ptr 1 0)), (41, (.sl (l34 v3))), (42, (.int .i64 ((l34 v3).length : Int))), (43, (.int .i64 0))]) (by kernel_rfl) ?_
        refine AW_loop (fun n env L => n ≤ k5 ∧ ∃ (v6 : Int) (v7 : Int) (v8 : Int), env = [(4, (.ptr 1 0)), (41, (.sl (l34 v3))), (42, (.int .i64 ((l34 v3).length : Int))), (43, (.int .i64 v6))] ∧ L = [.cells [(.int .i64 v1), (.sl (l76 v2)), (.sl (l34 v3))], .cells [(.int .i64 v7), (.int .i64 v8)]] ∧ F37_l1 n v3 v6 v7 v8 = some (r1, r2, r3)) k5 ⟨Nat.le_refl _, 0, 0, 0, rfl, rfl, h⟩ ?_
        rintro n _ _ ⟨hn, v6, v7, v8, rfl, rfl, h⟩
        cases n with
        | zero => rw [F37_l1] at h; cases h
        | succ k10 =>
          rw [F37_l1] at h
          refine AW_seq ?_
          refine AW_reg ?_
          refine AR_many hT 1 [4, 41, 42, 43, 44] [(4, (.ptr 1 0)), (41, (.sl (l34 v3))), (42, (.int .i64 ((l34 v3).length : Int))), (43, (.int .i64 v6)), (44, (.bool (decide (v6 < ((l34 v3).length : Int)))))] [.cells [(.int .i64 v1), (.sl (l76 v2)), (.sl (l34 v3))], .cells [(.int .i64 v7), (.int .i64 v8)]] (by kernel_rfl) ?_
          refine AR_fin (by kernel_rfl) ?_
          refine AE_seqN ?_
          refine AW_seq ?_
          rcases Bool.eq_false_or_eq_true (decide (v6 < ((l34 v3).length : Int))) with h12 | h12
          · replace h := bifT h12 h
            refine AW_ifT (q := (decide (v6 < ((l34 v3).length : Int)))) (by kernel_rfl) h12 ?_
            refine AE_skip ?_
            refine AE_seqN ?_
            refine AW_seq ?_
            refine AW_block ?_
            refine AW_seq ?_
            obtain ⟨⟨v9, v10, v11⟩, h13, h⟩ := Option.bind_eq_some_iff.mp h
            try dsimp only at h
            refine AW_reg ?_
            refine AR_op (by kernel_rfl) (OpJ_indexK hT (xs := l34 v3) (j := v6) (n := 3) (by kernel_rfl) (i34 h13) (by kernel_rfl)) ?_
            refine AR_many hT 3 [4, 6, 41, 42, 43] [(4, (.ptr 1 0)), (6, (.ptr 2 0)), (41, (.sl (l34 v3))), (42, (.int .i64 ((l34 v3).length : Int))), (43, (.int .i64 v6))] [.cells [(.int .i64 v1), (.sl (l76 v2)), (.sl (l34 v3))], .cells [(.int .i64 v7), (.int .i64 v8)], .cells [(.str v9), (.sl (l69 v10)), (.int .i64 v11)]] (by kernel_rfl) ?_
            refine AR_fin (by kernel_rfl) ?_
            refine AE_seqN ?_
            refine AW_join (fun env L => ∃ (v12 : Int) (v13 : Bool) (v14 : Int) (v15 : Int) (v16 : ByteArray) (v17 : (List T69)) (v18 : Int), env = [(4, (.ptr 1 0)), (41, (.sl (l34 v3))), (42, (.int .i64 ((l34 v3).length : Int))), (43, (.int .i64 v12)), (57, (.bool v13))] ∧ L = [.cells [(.int .i64 v1), (.sl (l76 v2)), (.sl (l34 v3))], .cells [(.int .i64 v14), (.int .i64 v15)], .cells [(.str v16), (.sl (l69 v17)), (.int .i64 v18)]] ∧ ∃ n, n ≤ k10 ∧ F37_j2 n v3 v12 v13 v14 v15 = some (r1, r2, r3)) ?_ ?_
            · obtain ⟨v19, h14, h⟩ := Option.bind_eq_some_iff.mp h
              try dsimp only at h
              rcases Bool.eq_false_or_eq_true (!v19) with h15 | h15
              · replace h := bifT h15 h
                refine AW_reg ?_
                refine AR_many hT 2 [4, 6, 41, 42, 43, 48] [(4, (.ptr 1 0)), (6, (.ptr 2 0)), (41, (.sl (l34 v3))), (42, (.int .i64 ((l34 v3).length : Int))), (43, (.int .i64 v6)), (48, (.str v9))] [.cells [(.int .i64 v1), (.sl (l76 v2)), (.sl (l34 v3))], .cells [(.int .i64 v7), (.int .i64 v8)], .cells [(.str v9), (.sl (l69 v10)), (.int .i64 v11)]] (by kernel_rfl) ?_
                refine AR_op (by kernel_rfl) (OpJ_callK (g := 75) (args := [(.str v9)]) (by kernel_rfl) Go.Proofs.Try.func75 (by kernel_rfl) (by kernel_rfl) (Fn_pure (F75_ok k10 v9 v19 h14) (by simp [AV.low, AV.lows, AObj.low]) (by simp [AV.low, AV.lows, AObj.low]))) ?_
                refine AR_many hT 1 [4, 6, 41, 42, 43, 50] [(4, (.ptr 1 0)), (6, (.ptr 2 0)), (41, (.sl (l34 v3))), (42, (.int .i64 ((l34 v3).length : Int))), (43, (.int .i64 v6)), (50, (.bool (!v19)))] [.cells [(.int .i64 v1), (.sl (l76 v2)), (.sl (l34 v3))], .cells [(.int .i64 v7), (.int .i64 v8)], .cells [(.str v9), (.sl (l69 v10)), (.int .i64 v11)]] (by kernel_rfl) ?_
                refine AR_op (by kernel_rfl) (OpJ_boolK hT (q := (!v19)) (by kernel_rfl) h15) ?_
                refine AR_many hT 6 [4, 41, 42, 43, 57] [(4, (.ptr 1 0)), (41, (.sl (l34 v3))), (42, (.int .i64 ((l34 v3).length : Int))), (43, (.int .i64 v6)), (57, (.bool true))] [.cells [(.int .i64 v1), (.sl (l76 v2)), (.sl (l34 v3))], .cells [(.int .i64 v7), (.int .i64 v8)], .cells [(.str v9), (.sl (l69 v10)), (.int .i64 v11)]] (by kernel_rfl) ?_
                refine AR_fin (by kernel_rfl) ?_
                refine AE_keep [4, 41, 42, 43, 57] (env' := [(4, (.ptr 1 0)), (41, (.sl (l34 v3))), (42, (.int .i64 ((l34 v3).length : Int))), (43, (.int .i64 v6)), (57, (.bool true))]) (by kernel_rfl) ?_
                exact AE_done ⟨v6, true, v7, v8, v9, v10, v11, rfl, rfl, k10, Nat.le_refl _, h⟩
              · replace h := bifF h15 h
                obtain ⟨⟨v20, v21, v22⟩, h16, h⟩ := Option.bind_eq_some_iff.mp h
                try dsimp only at h
                refine AW_reg ?_
                refine AR_many hT 2 [4, 6, 41, 42, 43, 48] [(4, (.ptr 1 0)), (6, (.ptr 2 0)), (41, (.sl (l34 v3))), (42, (.int .i64 ((l34 v3).length : Int))), (43, (.int .i64 v6)), (48, (.str v9))] [.cells [(.int .i64 v1), (.sl (l76 v2)), (.sl (l34 v3))], .cells [(.int .i64 v7), (.int .i64 v8)], .cells [(.str v9), (.sl (l69 v10)), (.int .i64 v11)]] (by kernel_rfl) ?_
                refine AR_op (by kernel_rfl) (OpJ_callK (g := 75) (args := [(.str v9)]) (by kernel_rfl) Go.Proofs.Try.func75 (by kernel_rfl) (by kernel_rfl) (Fn_pure (F75_ok k10 v9 v19 h14) (by simp [AV.low, AV.lows, AObj.low]) (by simp [AV.low, AV.lows, AObj.low]))) ?_
                refine AR_many hT 1 [4, 6, 41, 42, 43, 50] [(4, (.ptr 1 0)), (6, (.ptr 2 0)), (41, (.sl (l34 v3))), (42, (.int .i64 ((l34 v3).length : Int))), (43, (.int .i64 v6)), (50, (.bool (!v19)))] [.cells [(.int .i64 v1), (.sl (l76 v2)), (.sl (l34 v3))], .cells [(.int .i64 v7), (.int .i64 v8)], .cells [(.str v9), (.sl (l69 v10)), (.int .i64 v11)]] (by kernel_rfl) ?_
                refine AR_op (by kernel_rfl) (OpJ_boolK hT (q := (!v19)) (by kernel_rfl) h15) ?_
                refine AR_many hT 3 [4, 41, 42, 43, 51, 52, 54] [(4, (.ptr 1 0)), (41, (.sl (l34 v3))), (42, (.int .i64 ((l34 v3).length : Int))), (43, (.int .i64 v6)), (51, (.bool false)), (52, (.ptr 1 0)), (54, (.sl (l69 v10)))] [.cells [(.int .i64 v1), (.sl (l76 v2)), (.sl (l34 v3))], .cells [(.int .i64 v7), (.int .i64 v8)], .cells [(.str v9), (.sl (l69 v10)), (.int .i64 v11)]] (by kernel_rfl) ?_
                refine AR_op (by kernel_rfl) (OpJ_callK (g := 76) (args := [(.ptr 1 0), (.sl (l69 v10)), (.int .i64 12)]) (by kernel_rfl) Go.Proofs.Try.func76 (by kernel_rfl) (by kernel_rfl) (Fn_in (L := [.cells [(.int .i64 v1), (.sl (l76 v2)), (.sl (l34 v3))], .cells [(.int .i64 v7), (.int .i64 v8)], .cells [(.str v9), (.sl (l69 v10)), (.int .i64 v11)]]) (args' := [(.ptr 1 0), (.sl (l69 v10)), (.int .i64 12)]) (res' := (.bool v20)) (L'' := [.cells [(.int .i64 v1), (.sl (l76 v2)), (.sl (l34 v3))], .cells [(.int .i64 v21), (.int .i64 v22)], .cells [(.str v9), (.sl (l69 v10)), (.int .i64 v11)]]) [1] (F76_ok k10 v10 12 v7 v8 v20 v21 v22 h16) rfl (by decide) ⟨(by simp [AV.ren, AV.rens, AObj.ren, gname]), trivial⟩ (by simp [AV.low, AV.lows, AObj.low]) (by simp [AV.low, AV.lows, AObj.low]) (by kernel_rfl) (by simp [AV.ren, AV.rens, AObj.ren, gname, putBack]) (by simp [AV.ren, AV.rens, AObj.ren, gname, putBack]) (by simp [AV.ren, AV.rens, AObj.ren, gname, putBack]))) ?_
                refine AR_many hT 2 [4, 41, 42, 43, 57] [(4, (.ptr 1 0)), (41, (.sl (l34 v3))), (42, (.int .i64 ((l34 v3).length : Int))), (43, (.int .i64 v6)), (57, (.bool (!v20)))] [.cells [(.int .i64 v1), (.sl (l76 v2)), (.sl (l34 v3))], .cells [(.int .i64 v21), (.int .i64 v22)], .cells [(.str v9), (.sl (l69 v10)), (.int .i64 v11)]] (by kernel_rfl) ?_
                refine AR_fin (by kernel_rfl) ?_
                refine AE_keep [4, 41, 42, 43, 57] (env' := [(4, (.ptr 1 0)), (41, (.sl (l34 v3))), (42, (.int .i64 ((l34 v3).length : Int))), (43, (.int .i64 v6)), (57, (.bool (!v20)))]) (by kernel_rfl) ?_
                exact AE_done ⟨v6, (!v20), v21, v22, v9, v10, v11, rfl, rfl, k10, Nat.le_refl _, h⟩
            · rintro _ _ ⟨v12, v13, v14, v15, v16, v17, v18, rfl, rfl, n, hn, h⟩
              obtain _ | k17 := n
              · rw [F37_j2] at h; cases h
              rw [F37_j2] at h
              rcases Bool.eq_false_or_eq_true v13 with h19 | h19
              · replace h := bifT h19 h
                refine AW_ifT (q := v13) (by kernel_rfl) h19 ?_
                refine AW_seq ?_
                refine AW_reg ?_
                refine AR_many hT 3 [2, 3] [(2, (.ptr 1 0)), (3, (.bool false))] [.cells [(.int .i64 v1), (.sl (l76 v2)), (.sl (l34 v3))], .cells [(.int .i64 v14), (.int .i64 v15)], .cells [(.str v16), (.sl (l69 v17)), (.int .i64 v18)]] (by kernel_rfl) ?_
                refine AR_fin (by kernel_rfl) ?_
                refine AE_seqN ?_
                refine AE_ret ?_
                refine AE_blkR ?_
                refine AE_seqR ?_
                refine AE_seqR ?_
                refine AE_blkR ?_
                refine AE_seqR ?_
                refine AE_keep [2, 3] (env' := [(2, (.ptr 1 0)), (3, (.bool false))]) (by kernel_rfl) ?_
                simp only [Option.some.injEq, Prod.mk.injEq] at h
                obtain ⟨rfl, rfl, rfl⟩ := h
                exact AE_done ⟨trivial, by kernel_rfl, by kernel_rfl, by simp [AV.low, AV.lows, AObj.low], by simp [AV.low, AV.lows, AObj.low]⟩
              · replace h := bifF h19 h
                refine AW_ifF (q := v13) (by kernel_rfl) h19 ?_
                refine AE_skip ?_
                refine AE_blkN ?_
                refine AE_seqN ?_
                refine AW_reg ?_
                refine AR_many hT 2 [4, 41, 42, 43] [(4, (.ptr 1 0)), (41, (.sl (l34 v3))), (42, (.int .i64 ((l34 v3).length : Int))), (43, (.int .i64 (IntKind.wrap .i64 (v12 + 1))))] [.cells [(.int .i64 v1), (.sl (l76 v2)), (.sl (l34 v3))], .cells [(.int .i64 v14), (.int .i64 v15)], .cells [(.str v16), (.sl (l69 v17)), (.int .i64 v18)]] (by kernel_rfl) ?_
                refine AR_fin (by kernel_rfl) ?_
                refine AE_keep [4, 41, 42, 43] (env' := [(4, (.ptr 1 0)), (41, (.sl (l34 v3))), (42, (.int .i64 ((l34 v3).length : Int))), (43, (.int .i64 (IntKind.wrap .i64 (v12 + 1))))]) (by kernel_rfl) ?_
                refine AE_drop 2 (by kernel_rfl) (low_env (by simp [AV.low, AV.lows, AObj.low])) (by simp [AV.low, AV.lows, AObj.low]) (L' := [.cells [(.int .i64 v1), (.sl (l76 v2)), (.sl (l34 v3))], .cells [(.int .i64 v14), (.int .i64 v15)]]) (by kernel_rfl) ?_
                exact AE_done ⟨k17, by omega, by omega, (IntKind.wrap .i64 (v12 + 1)), v14, v15, rfl, rfl, h⟩
          · replace h := bifF h12 h
            refine AW_ifF (q := (decide (v6 < ((l34 v3).length : Int)))) (by kernel_rfl) h12 ?_
            refine AE_exit ?_
            refine AE_seqX ?_
            refine AE_seqX ?_
            refine AE_blkH ?_
            refine AE_seqN ?_
            refine AW_seq ?_
            refine AW_reg ?_
            refine AR_many hT 3 [2, 3] [(2, (.ptr 1 0)), (3, (.bool true))] [.cells [(.int .i64 v1), (.sl (l76 v2)), (.sl (l34 v3))], .cells [(.int .i64 v7), (.int .i64 v8)]] (by kernel_rfl) ?_
            refine AR_fin (by kernel_rfl) ?_
            refine AE_seqN ?_
            refine AE_ret ?_
            refine AE_keep [2, 3] (env' := [(2, (.ptr 1 0)), (3, (.bool true))]) (by kernel_rfl) ?_
            simp only [Option.some.injEq, Prod.mk.injEq] at h
            obtain ⟨rfl, rfl, rfl⟩ := h
            exact AE_done ⟨trivial, by kernel_rfl, by kernel_rfl, by simp [AV.low, AV.lows, AObj.low], by simp [AV.low, AV.lows, AObj.low]⟩

def F14 (k : Nat) (v1 : Int) (v2 : (List T76)) (v3 : (List T34)) : Option (Int) :=
  ((F37 k v1 v2 v3).bind fun ⟨v4, v5, v6⟩ =>
    (bif (!v4) then
      some (1)
    else
      some (0)))

theorem F14_ok (k : Nat) : ∀ (v1 : Int) (v2 : (List T76)) (v3 : (List T34)) (r1 : Int), F14 k v1 v2 v3 = some (r1) → Fn prog 14 [(.agg [(.int .i64 v1), (.sl (l76 v2)), (.sl (l34 v3))])] [] (.int .i64 r1) [] := by
  intro v1 v2 v3 r1 h
  rw [F14] at h
  refine Fn_bodyK hT Go.Proofs.Try.func14 (c := Go.Proofs.Try.f14.body.getD .skip) (by kernel_rfl) (by kernel_rfl) (by kernel_rfl) ?_
  refine AW_seq ?_
  refine AW_reg ?_
  refine AR_many hT 2 [1] [(1, (.ptr 0 0))] [.cells [(.int .i64 v1), (.sl (l76 v2)), (.sl (l34 v3))]] (by kernel_rfl) ?_
  refine AR_fin (by kernel_rfl) ?_
  refine AE_seqN ?_
  refine AW_seq ?_
  refine AW_seq ?_
  obtain ⟨⟨v4, v5, v6⟩, h1, h⟩ := Option.bind_eq_some_iff.mp h
  try dsimp only at h
  refine AW_reg ?_
  refine AR_many hT 1 [6] [(6, (.agg [(.int .i64 v1), (.sl (l76 v2)), (.sl (l34 v3))]))] [.cells [(.int .i64 v1), (.sl (l76 v2)), (.sl (l34 v3))]] (by kernel_rfl) ?_
  refine AR_op (by kernel_rfl) (OpJ_callK (g := 37) (args := [(.agg [(.int .i64 v1), (.sl (l76 v2)), (.sl (l34 v3))])]) (by kernel_rfl) Go.Proofs.Try.func37 (by kernel_rfl) (by kernel_rfl) (Fn_in (L := [.cells [(.int .i64 v1), (.sl (l76 v2)), (.sl (l34 v3))]]) (args' := [(.agg [(.int .i64 v1), (.sl (l76 v2)), (.sl (l34 v3))])]) (res' := (.tup [(.ptr 2 0), (.bool v4)])) (L'' := [.cells [(.int .i64 v1), (.sl (l76 v2)), (.sl (l34 v3))], .cells [(.int .i64 v1), (.sl (l76 v2)), (.sl (l34 v3))], .cells [(.int .i64 v5), (.int .i64 v6)]]) [] (F37_ok k v1 v2 v3 v4 v5 v6 h1) rfl (by decide) trivial (by simp [AV.low, AV.lows, AObj.low]) (by simp [AV.low, AV.lows, AObj.low]) (by kernel_rfl) (by simp [AV.ren, AV.rens, AObj.ren, gname, putBack]) (by simp [AV.ren, AV.rens, AObj.ren, gname, putBack]) (by simp [AV.ren, AV.rens, AObj.ren, gname, putBack]))) ?_
  refine AR_many hT 5 [4] [(4, (.bool v4))] [.cells [(.int .i64 v1), (.sl (l76 v2)), (.sl (l34 v3))], .cells [(.int .i64 v1), (.sl (l76 v2)), (.sl (l34 v3))], .cells [(.int .i64 v5), (.int .i64 v6)]] (by kernel_rfl) ?_
  refine AR_fin (by kernel_rfl) ?_
  refine AE_seqN ?_
  refine AW_seq ?_
  refine AW_reg ?_
  refine AR_many hT 2 [11] [(11, (.bool (!v4)))] [.cells [(.int .i64 v1), (.sl (l76 v2)), (.sl (l34 v3))], .cells [(.int .i64 v1), (.sl (l76 v2)), (.sl (l34 v3))], .cells [(.int .i64 v5), (.int .i64 v6)]] (by kernel_rfl) ?_
  refine AR_fin (by kernel_rfl) ?_
  refine AE_seqN ?_
  rcases Bool.eq_false_or_eq_true (!v4) with h2 | h2
  · replace h := bifT h2 h
    refine AW_ifT (q := (!v4)) (by kernel_rfl) h2 ?_
    refine AW_seq ?_
    refine AW_reg ?_
    refine AR_many hT 1 [2] [(2, (.int .i64 1))] [.cells [(.int .i64 v1), (.sl (l76 v2)), (.sl (l34 v3))], .cells [(.int .i64 v1), (.sl (l76 v2)), (.sl (l34 v3))], .cells [(.int .i64 v5), (.int .i64 v6)]] (by kernel_rfl) ?_
    refine AR_fin (by kernel_rfl) ?_
    refine AE_seqN ?_
    refine AE_ret ?_
    refine AE_seqR ?_
    refine AE_keep [2] (env' := [(2, (.int .i64 1))]) (by kernel_rfl) ?_
    simp only [Option.some.injEq] at h
    subst h
    exact AE_done ⟨trivial, by kernel_rfl, by kernel_rfl, by simp [AV.low, AV.lows, AObj.low], by simp [AV.low, AV.lows, AObj.low]⟩
  · replace h := bifF h2 h
    refine AW_ifF (q := (!v4)) (by kernel_rfl) h2 ?_
    refine AE_skip ?_
    refine AE_seqN ?_
    refine AW_seq ?_
    refine AW_reg ?_
    refine AR_many hT 1 [2] [(2, (.int .i64 0))] [.cells [(.int .i64 v1), (.sl (l76 v2)), (.sl (l34 v3))], .cells [(.int .i64 v1), (.sl (l76 v2)), (.sl (l34 v3))], .cells [(.int .i64 v5), (.int .i64 v6)]] (by kernel_rfl) ?_
    refine AR_fin (by kernel_rfl) ?_
    refine AE_seqN ?_
    refine AE_ret ?_
    refine AE_keep [2] (env' := [(2, (.int .i64 0))]) (by kernel_rfl) ?_
    simp only [Option.some.injEq] at h
    subst h
    exact AE_done ⟨trivial, by kernel_rfl, by kernel_rfl, by simp [AV.low, AV.lows, AObj.low], by simp [AV.low, AV.lows, AObj.low]⟩

mutual
def F40 : Nat → (List T69) → Int → Option (Int)
  | 0, _, _ => none
  | k + 1, v1, v2 =>
    (bif (v2 == 0) then
      some (0)
    else
      F40_l0 k v2 v1 0 0)
def F40_l0 : Nat → Int → (List T69) → Int → Int → Option (Int)
  | 0, _, _, _, _ => none
  | k2 + 1, v2, v1, v3, v4 =>
    (bif (decide (v4 < ((l69 v1).length : Int))) then
      ((idx v1 v4).bind fun ⟨v5, v6, v7, v8, v9, v10, v11⟩ =>
        ((F40 k2 v9 (IntKind.wrap .i64 (v2 - 1))).bind fun v12 =>
          ((F40 k2 v10 (IntKind.wrap .i64 (v2 - 1))).bind fun v13 =>
            F40_l0 k2 v2 v1 (if (IntKind.wrap .i64 (1 + (if v13 > v12 then v13 else v12))) > v3 then (IntKind.wrap .i64 (1 + (if v13 > v12 then v13 else v12))) else v3) (IntKind.wrap .i64 (v4 + 1)))))
    else
      some (v3))
end

theorem F40_step (K0 : Nat) (ih_F40 : ∀ k, k < K0 → ∀ (v1 : (List T69)) (v2 : Int) (r1 : Int), F40 k v1 v2 = some (r1) → Fn prog 40 [(.sl (l69 v1)), (.int .i64 v2)] [] (.int .i64 r1) []) : ∀ (v1 : (List T69)) (v2 : Int) (r1 : Int), F40 K0 v1 v2 = some (r1) → Fn prog 40 [(.sl (l69 v1)), (.int .i64 v2)] [] (.int .i64 r1) [] := by
  intro v1 v2 r1 h
  cases K0 with
  | zero => rw [F40] at h; cases h
  | succ k =>
    have hk : k < k + 1 := Nat.lt_succ_self k
    rw [F40] at h
    refine Fn_bodyK hT Go.Proofs.Try.func40 (c := Go.Proofs.Try.f40.body.getD .skip) (by kernel_rfl) (by kernel_rfl) (by kernel_rfl) ?_
    refine AW_seq ?_
    refine AW_reg ?_
    refine AR_many hT 1 [0, 1] [(0, (.sl (l69 v1))), (1, (.int .i64 v2))] [] (by kernel_rfl) ?_
    refine AR_fin (by kernel_rfl) ?_
    refine AE_seqN ?_
    refine AW_seq ?_
    refine AW_reg ?_
    refine AR_many hT 1 [0, 1, 5] [(0, (.sl (l69 v1))), (1, (.int .i64 v2)), (5, (.int .i64 0))] [] (by kernel_rfl) ?_
    refine AR_fin (by kernel_rfl) ?_
    refine AE_seqN ?_
    refine AW_seq ?_
    refine AW_seq ?_
    refine AW_reg ?_
    refine AR_many hT 2 [0, 1, 5, 9] [(0, (.sl (l69 v1))), (1, (.int .i64 v2)), (5, (.int .i64 0)), (9, (.bool (v2 == 0)))] [] (by kernel_rfl) ?_
    refine AR_fin (by kernel_rfl) ?_
    refine AE_seqN ?_
    rcases Bool.eq_false_or_eq_true (v2 == 0) with h1 | h1
    · replace h := bifT h1 h
      refine AW_ifT (q := (v2 == 0)) (by kernel_rfl) h1 ?_
      refine AW_seq ?_
      refine AW_reg ?_
      refine AR_many hT 1 [4] [(4, (.int .i64 0))] [] (by kernel_rfl) ?_
      refine AR_fin (by kernel_rfl) ?_
      refine AE_seqN ?_
      refine AE_ret ?_
      refine AE_seqR ?_
      refine AE_keep [4] (env' := [(4, (.int .i64 0))]) (by kernel_rfl) ?_
      simp only [Option.some.injEq] at h
      subst h
      exact AE_done ⟨trivial, by kernel_rfl, by kernel_rfl, by simp [AV.low, AV.lows, AObj.low], by simp [AV.low, AV.lows, AObj.low]⟩
    · replace h := bifF h1 h
      refine AW_ifF (q := (v2 == 0)) (by kernel_rfl) h1 ?_
      refine AE_skip ?_
      refine AE_seqN ?_
      refine AW_seq ?_
      refine AW_seq ?_
      refine AW_reg ?_
      refine AR_many hT 3 [1, 5, 10, 11, 12] [(1, (.int .i64 v2)), (5, (.int .i64 0)), (10, (.sl (l69 v1))), (11, (.int .i64 ((l69 v1).length : Int))), (12, (.int .i64 0))] [] (by kernel_rfl) ?_
      refine AR_fin (by kernel_rfl) ?_
      refine AE_seqN ?_
      refine AW_block ?_
      refine AW_keep [1, 5, 10, 11, 12] (env' := [(1, (.int .i64 v2)), (5, (.int .i64 0)), (10, (.sl (l69 v1))), (11, (.int .i64 ((l69 v1).length : Int))), (12, (.int .i64 0))]) (by kernel_rfl) ?_
      refine AW_loop (fun n env L => n ≤ k ∧ ∃ (v3 : Int) (v4 : Int), env = [(1, (.int .i64 v2)), (5, (.int .i64 v3)), (10, (.sl (l69 v1))), (11, (.int .i64 ((l69 v1).length : Int))), (12, (.int .i64 v4))] ∧ L = [] ∧ F40_l0 n v2 v1 v3 v4 = some (r1)) k ⟨Nat.le_refl _, 0, 0, rfl, rfl, h⟩ ?_
      rintro n _ _ ⟨hn, v3, v4, rfl, rfl, h⟩
      cases n with
      | zero => rw [F40_l0] at h; cases h
      | succ k2 =>
        have h3 : k2 < (k + 1) := by omega
        rw [F40_l0] at h
        refine AW_seq ?_
        refine AW_reg ?_
        refine AR_many hT 1 [1, 5, 10, 11, 12, 13] [(1, (.int .i64 v2)), (5, (.int .i64 v3)), (10, (.sl (l69 v1))), (11, (.int .i64 ((l69 v1).length : Int))), (12, (.int .i64 v4)), (13, (.bool (decide (v4 < ((l69 v1).length : Int)))))] [] (by kernel_rfl) ?_
        refine AR_fin (by kernel_rfl) ?_
        refine AE_seqN ?_
        refine AW_seq ?_
        rcases Bool.eq_false_or_eq_true (decide (v4 < ((l69 v1).length : Int))) with h4 | h4
        · replace h := bifT h4 h
          refine AW_ifT (q := (decide (v4 < ((l69 v1).length : Int)))) (by kernel_rfl) h4 ?_
          refine AE_skip ?_
          refine AE_seqN ?_
          refine AW_seq ?_
          refine AW_block ?_
          refine AW_seq ?_
          obtain ⟨⟨v5, v6, v7, v8, v9, v10, v11⟩, h5, h⟩ := Option.bind_eq_some_iff.mp h
          try dsimp only at h
          refine AW_reg ?_
          refine AR_op (by kernel_rfl) (OpJ_indexK hT (xs := l69 v1) (j := v4) (n := 7) (by kernel_rfl) (i69 h5) (by kernel_rfl)) ?_
          refine AR_many hT 3 [1, 5, 7, 10, 11, 12] [(1, (.int .i64 v2)), (5, (.int .i64 v3)), (7, (.ptr 0 0)), (10, (.sl (l69 v1))), (11, (.int .i64 ((l69 v1).length : Int))), (12, (.int .i64 v4))] [.cells [(.int .i64 v5), (.str v6), (.str v7), (.sl (l57 v8)), (.sl (l69 v9)), (.sl (l69 v10)), (.int .i64 v11)]] (by kernel_rfl) ?_
          refine AR_fin (by kernel_rfl) ?_
          refine AE_seqN ?_
          obtain ⟨v12, h6, h⟩ := Option.bind_eq_some_iff.mp h
          try dsimp only at h
          obtain ⟨v13, h7, h⟩ := Option.bind_eq_some_iff.mp h
          try dsimp only at h
          refine AW_drx hmix [⟨(.int .i64 v3), [], 0, 0, false⟩, ⟨(.ptr 0 4), [], 0, 0, false⟩, ⟨(.sl (l69 v9)), [1], 0, 0, false⟩, ⟨(.int .i64 v2), [], 0, 0, false⟩, ⟨(.int .i64 (IntKind.wrap .i64 (v2 - 1))), [3], 0, 0, false⟩, ⟨(.int .i64 v12), [1, 2, 3, 4], 0, 0, false⟩, ⟨(.ptr 0 5), [], 0, 0, false⟩, ⟨(.sl (l69 v10)), [6], 0, 0, false⟩, ⟨(.int .i64 v2), [], 0, 0, false⟩, ⟨(.int .i64 (IntKind.wrap .i64 (v2 - 1))), [8], 0, 0, false⟩, ⟨(.int .i64 v13), [1, 2, 3, 4, 5, 6, 7, 8, 9], 0, 0, false⟩, ⟨(.int .i64 (if v13 > v12 then v13 else v12)), [1, 2, 3, 4, 5, 6, 7, 8, 9, 10], 0, 0, false⟩, ⟨(.int .i64 (IntKind.wrap .i64 (1 + (if v13 > v12 then v13 else v12)))), [1, 2, 3, 4, 5, 6, 7, 8, 9, 10, 11], 0, 0, false⟩, ⟨(.int .i64 (if (IntKind.wrap .i64 (1 + (if v13 > v12 then v13 else v12))) > v3 then (IntKind.wrap .i64 (1 + (if v13 > v12 then v13 else v12))) else v3)), [0, 1, 2, 3, 4, 5, 6, 7, 8, 9, 10, 11, 12], 0, 0, false⟩, ⟨(.int .i64 (if (IntKind.wrap .i64 (1 + (if v13 > v12 then v13 else v12))) > v3 then (IntKind.wrap .i64 (1 + (if v13 > v12 then v13 else v12))) else v3)), [0, 1, 2, 3, 4, 5, 6, 7, 8, 9, 10, 11, 12, 13], 0, 0, false⟩] [] (fun _ => [.cells [(.int .i64 v5), (.str v6), (.str v7), (.sl (l57 v8)), (.sl (l69 v9)), (.sl (l69 v10)), (.int .i64 v11)]]) [1, 5, 10, 11, 12] [(1, (.int .i64 v2)), (5, (.int .i64 (if (IntKind.wrap .i64 (1 + (if v13 > v12 then v13 else v12))) > v3 then (IntKind.wrap .i64 (1 + (if v13 > v12 then v13 else v12))) else v3))), (10, (.sl (l69 v1))), (11, (.int .i64 ((l69 v1).length : Int))), (12, (.int .i64 v4))] [.cells [(.int .i64 v5), (.str v6), (.str v7), (.sl (l57 v8)), (.sl (l69 v9)), (.sl (l69 v10)), (.int .i64 v11)]] (by kernel_rfl) rfl rfl (by kernel_rfl) ?_ ?_
          · refine SA_plain hT 5 (by kernel_rfl) ?_
            refine SA_tell (v := (.int .i64 v12)) (by kernel_rfl) (by kernel_rfl) (by kernel_rfl) (fun L => (OpJ_callK (g := 40) (args := [(.sl (l69 v9)), (.int .i64 (IntKind.wrap .i64 (v2 - 1)))]) (by kernel_rfl) Go.Proofs.Try.func40 (by kernel_rfl) (by kernel_rfl) (Fn_pure (ih_F40 k2 h3 v9 (IntKind.wrap .i64 (v2 - 1)) v12 h6) (by simp [AV.low, AV.lows, AObj.low]) (by simp [AV.low, AV.lows, AObj.low])))) ?_
            refine SA_plain hT 4 (by kernel_rfl) ?_
            refine SA_tell (v := (.int .i64 v13)) (by kernel_rfl) (by kernel_rfl) (by kernel_rfl) (fun L => (OpJ_callK (g := 40) (args := [(.sl (l69 v10)), (.int .i64 (IntKind.wrap .i64 (v2 - 1)))]) (by kernel_rfl) Go.Proofs.Try.func40 (by kernel_rfl) (by kernel_rfl) (Fn_pure (ih_F40 k2 h3 v10 (IntKind.wrap .i64 (v2 - 1)) v13 h7) (by simp [AV.low, AV.lows, AObj.low]) (by simp [AV.low, AV.lows, AObj.low])))) ?_
            refine SA_plain hT 4 (by kernel_rfl) ?_
            exact SA_end (by kernel_rfl)
          refine AE_blkN ?_
          refine AE_seqN ?_
          refine AW_reg ?_
          refine AR_many hT 2 [1, 5, 10, 11, 12] [(1, (.int .i64 v2)), (5, (.int .i64 (if (IntKind.wrap .i64 (1 + (if v13 > v12 then v13 else v12))) > v3 then (IntKind.wrap .i64 (1 + (if v13 > v12 then v13 else v12))) else v3))), (10, (.sl (l69 v1))), (11, (.int .i64 ((l69 v1).length : Int))), (12, (.int .i64 (IntKind.wrap .i64 (v4 + 1))))] [.cells [(.int .i64 v5), (.str v6), (.str v7), (.sl (l57 v8)), (.sl (l69 v9)), (.sl (l69 v10)), (.int .i64 v11)]] (by kernel_rfl) ?_
          refine AR_fin (by kernel_rfl) ?_
          refine AE_keep [1, 5, 10, 11, 12] (env' := [(1, (.int .i64 v2)), (5, (.int .i64 (if (IntKind.wrap .i64 (1 + (if v13 > v12 then v13 else v12))) > v3 then (IntKind.wrap .i64 (1 + (if v13 > v12 then v13 else v12))) else v3))), (10, (.sl (l69 v1))), (11, (.int .i64 ((l69 v1).length : Int))), (12, (.int .i64 (IntKind.wrap .i64 (v4 + 1))))]) (by kernel_rfl) ?_
          refine AE_drop 0 (by kernel_rfl) (low_env (by simp [AV.low, AV.lows, AObj.low])) (by simp [AV.low, AV.lows, AObj.low]) (L' := []) (by kernel_rfl) ?_
          exact AE_done ⟨k2, by omega, by omega, (if (IntKind.wrap .i64 (1 + (if v13 > v12 then v13 else v12))) > v3 then (IntKind.wrap .i64 (1 + (if v13 > v12 then v13 else v12))) else v3), (IntKind.wrap .i64 (v4 + 1)), rfl, rfl, h⟩
        · replace h := bifF h4 h
          refine AW_ifF (q := (decide (v4 < ((l69 v1).length : Int)))) (by kernel_rfl) h4 ?_
          refine AE_exit ?_
          refine AE_seqX ?_
          refine AE_seqX ?_
          refine AE_blkH ?_
          refine AE_seqN ?_
          refine AW_seq ?_
          refine AW_reg ?_
          refine AR_many hT 2 [4] [(4, (.int .i64 v3))] [] (by kernel_rfl) ?_
          refine AR_fin (by kernel_rfl) ?_
          refine AE_seqN ?_
          refine AE_ret ?_
          refine AE_keep [4] (env' := [(4, (.int .i64 v3))]) (by kernel_rfl) ?_
          simp only [Option.some.injEq] at h
          subst h
          exact AE_done ⟨trivial, by kernel_rfl, by kernel_rfl, by simp [AV.low, AV.lows, AObj.low], by simp [AV.low, AV.lows, AObj.low]⟩

theorem F40_all (K0 : Nat) : (∀ (v1 : (List T69)) (v2 : Int) (r1 : Int), F40 K0 v1 v2 = some (r1) → Fn prog 40 [(.sl (l69 v1)), (.int .i64 v2)] [] (.int .i64 r1) []) := by
  induction K0 using Nat.strongRecOn with
  | ind K0 ih => exact F40_step K0 (fun k hk => (ih k hk))

theorem F40_ok (K0 : Nat) : ∀ (v1 : (List T69)) (v2 : Int) (r1 : Int), F40 K0 v1 v2 = some (r1) → Fn prog 40 [(.sl (l69 v1)), (.int .i64 v2)] [] (.int .i64 r1) [] := (F40_all K0)

def F15 (k : Nat) (v1 : (List T69)) : Option (Int) :=
  ((F40 k v1 13).bind fun v2 =>
    some (v2))

theorem F15_ok (k : Nat) : ∀ (v1 : (List T69)) (r1 : Int), F15 k v1 = some (r1) → Fn prog 15 [(.sl (l69 v1))] [] (.int .i64 r1) [] := by
  intro v1 r1 h
  rw [F15] at h
  refine Fn_bodyK hT Go.Proofs.Try.func15 (c := Go.Proofs.Try.f15.body.getD .skip) (by kernel_rfl) (by kernel_rfl) (by kernel_rfl) ?_
  refine AW_seq ?_
  refine AW_reg ?_
  refine AR_many hT 1 [0] [(0, (.sl (l69 v1)))] [] (by kernel_rfl) ?_
  refine AR_fin (by kernel_rfl) ?_
  refine AE_seqN ?_
  refine AW_seq ?_
  obtain ⟨v2, h1, h⟩ := Option.bind_eq_some_iff.mp h
  try dsimp only at h
  refine AW_reg ?_
  refine AR_many hT 1 [3] [(3, (.sl (l69 v1)))] [] (by kernel_rfl) ?_
  refine AR_op (by kernel_rfl) (OpJ_callK (g := 40) (args := [(.sl (l69 v1)), (.int .i64 13)]) (by kernel_rfl) Go.Proofs.Try.func40 (by kernel_rfl) (by kernel_rfl) (Fn_pure (F40_ok k v1 13 v2 h1) (by simp [AV.low, AV.lows, AObj.low]) (by simp [AV.low, AV.lows, AObj.low]))) ?_
  refine AR_many hT 1 [2] [(2, (.int .i64 v2))] [] (by kernel_rfl) ?_
  refine AR_fin (by kernel_rfl) ?_
  refine AE_seqN ?_
  refine AE_ret ?_
  refine AE_keep [2] (env' := [(2, (.int .i64 v2))]) (by kernel_rfl) ?_
  simp only [Option.some.injEq] at h
  subst h
  exact AE_done ⟨trivial, by kernel_rfl, by kernel_rfl, by simp [AV.low, AV.lows, AObj.low], by simp [AV.low, AV.lows, AObj.low]⟩

def F43 (k : Nat) (v1 : Int) (v2 : ByteArray) (v3 : Int) (v4 : Int) (v5 : Int) (v6 : ByteArray) (v7 : Int) (v8 : Int) : Option (Bool) :=
  (bif (v1 == v5) then
    (bif (v2.toList == v6.toList) then
      some ((v3 == v7))
    else
      some (false))
  else
    some (false))

theorem F43_ok (k : Nat) : ∀ (v1 : Int) (v2 : ByteArray) (v3 : Int) (v4 : Int) (v5 : Int) (v6 : ByteArray) (v7 : Int) (v8 : Int) (r1 : Bool), F43 k v1 v2 v3 v4 v5 v6 v7 v8 = some (r1) → Fn prog 43 [(.agg [(.int .i64 v1), (.str v2), (.int .i64 v3), (.int .i64 v4)]), (.agg [(.int .i64 v5), (.str v6), (.int .i64 v7), (.int .i64 v8)])] [] (.bool r1) [] := by
  intro v1 v2 v3 v4 v5 v6 v7 v8 r1 h
  rw [F43] at h
  refine Fn_bodyK hT Go.Proofs.Try.func43 (c := Go.Proofs.Try.f43.body.getD .skip) (by kernel_rfl) (by kernel_rfl) (by kernel_rfl) ?_
  refine AW_seq ?_
  refine AW_reg ?_
  refine AR_many hT 3 [2, 3] [(2, (.ptr 0 0)), (3, (.ptr 1 0))] [.cells [(.int .i64 v1), (.str v2), (.int .i64 v3), (.int .i64 v4)], .cells [(.int .i64 v5), (.str v6), (.int .i64 v7), (.int .i64 v8)]] (by kernel_rfl) ?_
  refine AR_fin (by kernel_rfl) ?_
  refine AE_seqN ?_
  refine AW_seq ?_
  rcases Bool.eq_false_or_eq_true (v1 == v5) with h1 | h1
  · replace h := bifT h1 h
    rcases Bool.eq_false_or_eq_true (v2.toList == v6.toList) with h2 | h2
    · replace h := bifT h2 h
      refine AW_reg ?_
      refine AR_many hT 5 [2, 3, 9] [(2, (.ptr 0 0)), (3, (.ptr 1 0)), (9, (.bool (v1 == v5)))] [.cells [(.int .i64 v1), (.str v2), (.int .i64 v3), (.int .i64 v4)], .cells [(.int .i64 v5), (.str v6), (.int .i64 v7), (.int .i64 v8)]] (by kernel_rfl) ?_
      refine AR_op (by kernel_rfl) (OpJ_boolK hT (q := (v1 == v5)) (by kernel_rfl) h1) ?_
      refine AR_many hT 6 [2, 3, 16] [(2, (.ptr 0 0)), (3, (.ptr 1 0)), (16, (.bool (v2.toList == v6.toList)))] [.cells [(.int .i64 v1), (.str v2), (.int .i64 v3), (.int .i64 v4)], .cells [(.int .i64 v5), (.str v6), (.int .i64 v7), (.int .i64 v8)]] (by kernel_rfl) ?_
      refine AR_op (by kernel_rfl) (OpJ_boolK hT (q := (v2.toList == v6.toList)) (by kernel_rfl) h2) ?_
      refine AR_many hT 7 [4] [(4, (.bool (v3 == v7)))] [.cells [(.int .i64 v1), (.str v2), (.int .i64 v3), (.int .i64 v4)], .cells [(.int .i64 v5), (.str v6), (.int .i64 v7), (.int .i64 v8)]] (by kernel_rfl) ?_
      refine AR_fin (by kernel_rfl) ?_
      refine AE_seqN ?_
      refine AE_ret ?_
      refine AE_keep [4] (env' := [(4, (.bool (v3 == v7)))]) (by kernel_rfl) ?_
      simp only [Option.some.injEq] at h
      subst h
      exact AE_done ⟨trivial, by kernel_rfl, by kernel_rfl, by simp [AV.low, AV.lows, AObj.low], by simp [AV.low, AV.lows, AObj.low]⟩
    · replace h := bifF h2 h
      refine AW_reg ?_
      refine AR_many hT 5 [2, 3, 9] [(2, (.ptr 0 0)), (3, (.ptr 1 0)), (9, (.bool (v1 == v5)))] [.cells [(.int .i64 v1), (.str v2), (.int .i64 v3), (.int .i64 v4)], .cells [(.int .i64 v5), (.str v6), (.int .i64 v7), (.int .i64 v8)]] (by kernel_rfl) ?_
      refine AR_op (by kernel_rfl) (OpJ_boolK hT (q := (v1 == v5)) (by kernel_rfl) h1) ?_
      refine AR_many hT 6 [2, 3, 16] [(2, (.ptr 0 0)), (3, (.ptr 1 0)), (16, (.bool (v2.toList == v6.toList)))] [.cells [(.int .i64 v1), (.str v2), (.int .i64 v3), (.int .i64 v4)], .cells [(.int .i64 v5), (.str v6), (.int .i64 v7), (.int .i64 v8)]] (by kernel_rfl) ?_
      refine AR_op (by kernel_rfl) (OpJ_boolK hT (q := (v2.toList == v6.toList)) (by kernel_rfl) h2) ?_
      refine AR_many hT 7 [4] [(4, (.bool false))] [.cells [(.int .i64 v1), (.str v2), (.int .i64 v3), (.int .i64 v4)], .cells [(.int .i64 v5), (.str v6), (.int .i64 v7), (.int .i64 v8)]] (by kernel_rfl) ?_
      refine AR_fin (by kernel_rfl) ?_
      refine AE_seqN ?_
      refine AE_ret ?_
      refine AE_keep [4] (env' := [(4, (.bool false))]) (by kernel_rfl) ?_
      simp only [Option.some.injEq] at h
      subst h
      exact AE_done ⟨trivial, by kernel_rfl, by kernel_rfl, by simp [AV.low, AV.lows, AObj.low], by simp [AV.low, AV.lows, AObj.low]⟩
  · replace h := bifF h1 h
    refine AW_reg ?_
    refine AR_many hT 5 [2, 3, 9] [(2, (.ptr 0 0)), (3, (.ptr 1 0)), (9, (.bool (v1 == v5)))] [.cells [(.int .i64 v1), (.str v2), (.int .i64 v3), (.int .i64 v4)], .cells [(.int .i64 v5), (.str v6), (.int .i64 v7), (.int .i64 v8)]] (by kernel_rfl) ?_
    refine AR_op (by kernel_rfl) (OpJ_boolK hT (q := (v1 == v5)) (by kernel_rfl) h1) ?_
    refine AR_many hT 14 [4] [(4, (.bool false))] [.cells [(.int .i64 v1), (.str v2), (.int .i64 v3), (.int .i64 v4)], .cells [(.int .i64 v5), (.str v6), (.int .i64 v7), (.int .i64 v8)]] (by kernel_rfl) ?_
    refine AR_fin (by kernel_rfl) ?_
    refine AE_seqN ?_
    refine AE_ret ?_
    refine AE_keep [4] (env' := [(4, (.bool false))]) (by kernel_rfl) ?_
    simp only [Option.some.injEq] at h
    subst h
    exact AE_done ⟨trivial, by kernel_rfl, by kernel_rfl, by simp [AV.low, AV.lows, AObj.low], by simp [AV.low, AV.lows, AObj.low]⟩

def F42_l0 : Nat → (List T76) → (List T76) → Int → Option (Bool)
  | 0, _, _, _ => none
  | k2 + 1, v2, v1, v3 =>
    (bif (decide (v3 < ((l76 v1).length : Int))) then
      ((idx v1 v3).bind fun ⟨v4, v5, v6, v7⟩ =>
        ((idx v2 v3).bind fun ⟨v8, v9, v10, v11⟩ =>
          ((F43 k2 v4 v5 v6 v7 v8 v9 v10 v11).bind fun v12 =>
            (bif (!v12) then
              some (false)
            else
              F42_l0 k2 v2 v1 (IntKind.wrap .i64 (v3 + 1))))))
    else
      some (true))

def F42 (k : Nat) (v1 : (List T76)) (v2 : (List T76)) : Option (Bool) :=
  (bif (((l76 v1).length : Int) != ((l76 v2).length : Int)) then
    some (false)
  else
    F42_l0 k v2 v1 0)

theorem F42_ok (k : Nat) : ∀ (v1 : (List T76)) (v2 : (List T76)) (r1 : Bool), F42 k v1 v2 = some (r1) → Fn prog 42 [(.sl (l76 v1)), (.sl (l76 v2)), (.fn 43 [] [])] [] (.bool r1) [] := by
  intro v1 v2 r1 h
  rw [F42] at h
  refine Fn_bodyK hT Go.Proofs.Try.func42 (c := Go.Proofs.Try.f42.body.getD .skip) (by kernel_rfl) (by kernel_rfl) (by kernel_rfl) ?_
  refine AW_seq ?_
  refine AW_reg ?_
  refine AR_many hT 1 [0, 1, 2] [(0, (.sl (l76 v1))), (1, (.sl (l76 v2))), (2, (.fn 43 [] []))] [] (by kernel_rfl) ?_
  refine AR_fin (by kernel_rfl) ?_
  refine AE_seqN ?_
  refine AW_seq ?_
  refine AW_seq ?_
  refine AW_reg ?_
  refine AR_many hT 5 [0, 1, 2, 14] [(0, (.sl (l76 v1))), (1, (.sl (l76 v2))), (2, (.fn 43 [] [])), (14, (.bool (((l76 v1).length : Int) != ((l76 v2).length : Int))))] [] (by kernel_rfl) ?_
  refine AR_fin (by kernel_rfl) ?_
  refine AE_seqN ?_
  rcases Bool.eq_false_or_eq_true (((l76 v1).length : Int) != ((l76 v2).length : Int)) with h1 | h1
  · replace h := bifT h1 h
    refine AW_ifT (q := (((l76 v1).length : Int) != ((l76 v2).length : Int))) (by kernel_rfl) h1 ?_
    refine AW_seq ?_
    refine AW_reg ?_
    refine AR_many hT 1 [6] [(6, (.bool false))] [] (by kernel_rfl) ?_
    refine AR_fin (by kernel_rfl) ?_
    refine AE_seqN ?_
    refine AE_ret ?_
    refine AE_seqR ?_
    refine AE_keep [6] (env' := [(6, (.bool false))]) (by kernel_rfl) ?_
    simp only [Option.some.injEq] at h
    subst h
    exact AE_done ⟨trivial, by kernel_rfl, by kernel_rfl, by simp [AV.low, AV.lows, AObj.low], by simp [AV.low, AV.lows, AObj.low]⟩
  · replace h := bifF h1 h
    refine AW_ifF (q := (((l76 v1).length : Int) != ((l76 v2).length : Int))) (by kernel_rfl) h1 ?_
    refine AE_skip ?_
    refine AE_seqN ?_
    refine AW_seq ?_
    refine AW_seq ?_
    refine AW_reg ?_
    refine AR_many hT 3 [1, 2, 15, 16, 17] [(1, (.sl (l76 v2))), (2, (.fn 43 [] [])), (15, (.sl (l76 v1))), (16, (.int .i64 ((l76 v1).length : Int))), (17, (.int .i64 0))] [] (by kernel_rfl) ?_
    refine AR_fin (by kernel_rfl) ?_
    refine AE_seqN ?_
    refine AW_block ?_
    refine AW_keep [1, 2, 15, 16, 17] (env' := [(1, (.sl (l76 v2))), (2, (.fn 43 [] [])), (15, (.sl (l76 v1))), (16, (.int .i64 ((l76 v1).length : Int))), (17, (.int .i64 0))]) (by kernel_rfl) ?_
    refine AW_loop (fun n env L => n ≤ k ∧ ∃ (v3 : Int), env = [(1, (.sl (l76 v2))), (2, (.fn 43 [] [])), (15, (.sl (l76 v1))), (16, (.int .i64 ((l76 v1).length : Int))), (17, (.int .i64 v3))] ∧ L = [] ∧ F42_l0 n v2 v1 v3 = some (r1)) k ⟨Nat.le_refl _, 0, rfl, rfl, h⟩ ?_
    rintro n _ _ ⟨hn, v3, rfl, rfl, h⟩
    cases n with
    | zero => rw [F42_l0] at h; cases h
    | succ k2 =>
      rw [F42_l0] at h
      refine AW_seq ?_
      refine AW_reg ?_
      refine AR_many hT 1 [1, 2, 15, 16, 17, 18] [(1, (.sl (l76 v2))), (2, (.fn 43 [] [])), (15, (.sl (l76 v1))), (16, (.int .i64 ((l76 v1).length : Int))), (17, (.int .i64 v3)), (18, (.bool (decide (v3 < ((l76 v1).length : Int)))))] [] (by kernel_rfl) ?_
      refine AR_fin (by kernel_rfl) ?_
      refine AE_seqN ?_
      refine AW_seq ?_
      rcases Bool.eq_false_or_eq_true (decide (v3 < ((l76 v1).length : Int))) with h4 | h4
      · replace h := bifT h4 h
        refine AW_ifT (q := (decide (v3 < ((l76 v1).length : Int)))) (by kernel_rfl) h4 ?_
        refine AE_skip ?_
        refine AE_seqN ?_
        refine AW_seq ?_
        refine AW_block ?_
        refine AW_seq ?_
        obtain ⟨⟨v4, v5, v6, v7⟩, h5, h⟩ := Option.bind_eq_some_iff.mp h
        try dsimp only at h
        refine AW_reg ?_
        refine AR_many hT 1 [1, 2, 15, 16, 17, 19] [(1, (.sl (l76 v2))), (2, (.fn 43 [] [])), (15, (.sl (l76 v1))), (16, (.int .i64 ((l76 v1).length : Int))), (17, (.int .i64 v3)), (19, (.int .i64 v3))] [] (by kernel_rfl) ?_
        refine AR_op (by kernel_rfl) (OpJ_indexK hT (xs := l76 v1) (j := v3) (n := 4) (by kernel_rfl) (i76 h5) (by kernel_rfl)) ?_
        refine AR_many hT 4 [1, 2, 7, 8, 15, 16, 17] [(1, (.sl (l76 v2))), (2, (.fn 43 [] [])), (7, (.int .i64 v3)), (8, (.ptr 0 0)), (15, (.sl (l76 v1))), (16, (.int .i64 ((l76 v1).length : Int))), (17, (.int .i64 v3))] [.cells [(.int .i64 v4), (.str v5), (.int .i64 v6), (.int .i64 v7)]] (by kernel_rfl) ?_
        refine AR_fin (by kernel_rfl) ?_
        refine AE_seqN ?_
        refine AW_seq ?_
        obtain ⟨⟨v8, v9, v10, v11⟩, h6, h⟩ := Option.bind_eq_some_iff.mp h
        try dsimp only at h
        refine AW_reg ?_
        refine AR_many hT 2 [1, 2, 8, 15, 16, 17, 22, 23] [(1, (.sl (l76 v2))), (2, (.fn 43 [] [])), (8, (.ptr 0 0)), (15, (.sl (l76 v1))), (16, (.int .i64 ((l76 v1).length : Int))), (17, (.int .i64 v3)), (22, (.sl (l76 v2))), (23, (.int .i64 v3))] [.cells [(.int .i64 v4), (.str v5), (.int .i64 v6), (.int .i64 v7)]] (by kernel_rfl) ?_
        refine AR_op (by kernel_rfl) (OpJ_indexK hT (xs := l76 v2) (j := v3) (n := 4) (by kernel_rfl) (i76 h6) (by kernel_rfl)) ?_
        refine AR_many hT 3 [1, 2, 8, 9, 15, 16, 17] [(1, (.sl (l76 v2))), (2, (.fn 43 [] [])), (8, (.ptr 0 0)), (9, (.ptr 1 0)), (15, (.sl (l76 v1))), (16, (.int .i64 ((l76 v1).length : Int))), (17, (.int .i64 v3))] [.cells [(.int .i64 v4), (.str v5), (.int .i64 v6), (.int .i64 v7)], .cells [(.int .i64 v8), (.str v9), (.int .i64 v10), (.int .i64 v11)]] (by kernel_rfl) ?_
        refine AR_fin (by kernel_rfl) ?_
        refine AE_seqN ?_
        refine AW_seq ?_
        obtain ⟨v12, h7, h⟩ := Option.bind_eq_some_iff.mp h
        try dsimp only at h
        refine AW_reg ?_
        refine AR_many hT 3 [1, 2, 15, 16, 17, 26, 27, 28] [(1, (.sl (l76 v2))), (2, (.fn 43 [] [])), (15, (.sl (l76 v1))), (16, (.int .i64 ((l76 v1).length : Int))), (17, (.int .i64 v3)), (26, (.fn 43 [] [])), (27, (.agg [(.int .i64 v4), (.str v5), (.int .i64 v6), (.int .i64 v7)])), (28, (.agg [(.int .i64 v8), (.str v9), (.int .i64 v10), (.int .i64 v11)]))] [.cells [(.int .i64 v4), (.str v5), (.int .i64 v6), (.int .i64 v7)], .cells [(.int .i64 v8), (.str v9), (.int .i64 v10), (.int .i64 v11)]] (by kernel_rfl) ?_
        refine AR_op (by kernel_rfl) (OpJ_callK (g := 43) (args := [(.agg [(.int .i64 v4), (.str v5), (.int .i64 v6), (.int .i64 v7)]), (.agg [(.int .i64 v8), (.str v9), (.int .i64 v10), (.int .i64 v11)])]) (by kernel_rfl) Go.Proofs.Try.func43 (by kernel_rfl) (by kernel_rfl) (Fn_pure (F43_ok k2 v4 v5 v6 v7 v8 v9 v10 v11 v12 h7) (by simp [AV.low, AV.lows, AObj.low]) (by simp [AV.low, AV.lows, AObj.low]))) ?_
        refine AR_many hT 1 [1, 2, 15, 16, 17, 30] [(1, (.sl (l76 v2))), (2, (.fn 43 [] [])), (15, (.sl (l76 v1))), (16, (.int .i64 ((l76 v1).length : Int))), (17, (.int .i64 v3)), (30, (.bool (!v12)))] [.cells [(.int .i64 v4), (.str v5), (.int .i64 v6), (.int .i64 v7)], .cells [(.int .i64 v8), (.str v9), (.int .i64 v10), (.int .i64 v11)]] (by kernel_rfl) ?_
        refine AR_fin (by kernel_rfl) ?_
        refine AE_seqN ?_
        rcases Bool.eq_false_or_eq_true (!v12) with h8 | h8
        · replace h := bifT h8 h
          refine AW_ifT (q := (!v12)) (by kernel_rfl) h8 ?_
          refine AW_seq ?_
          refine AW_reg ?_
          refine AR_many hT 1 [6] [(6, (.bool false))] [.cells [(.int .i64 v4), (.str v5), (.int .i64 v6), (.int .i64 v7)], .cells [(.int .i64 v8), (.str v9), (.int .i64 v10), (.int .i64 v11)]] (by kernel_rfl) ?_
          refine AR_fin (by kernel_rfl) ?_
          refine AE_seqN ?_
          refine AE_ret ?_
          refine AE_blkR ?_
          refine AE_seqR ?_
          refine AE_seqR ?_
          refine AE_blkR ?_
          refine AE_seqR ?_
          refine AE_keep [6] (env' := [(6, (.bool false))]) (by kernel_rfl) ?_
          simp only [Option.some.injEq] at h
          subst h
          exact AE_done ⟨trivial, by kernel_rfl, by kernel_rfl, by simp [AV.low, AV.lows, AObj.low], by simp [AV.low, AV.lows, AObj.low]⟩
        · replace h := bifF h8 h
          refine AW_ifF (q := (!v12)) (by kernel_rfl) h8 ?_
          refine AE_skip ?_
          refine AE_blkN ?_
          refine AE_seqN ?_
          refine AW_reg ?_
          refine AR_many hT 2 [1, 2, 15, 16, 17] [(1, (.sl (l76 v2))), (2, (.fn 43 [] [])), (15, (.sl (l76 v1))), (16, (.int .i64 ((l76 v1).length : Int))), (17, (.int .i64 (IntKind.wrap .i64 (v3 + 1))))] [.cells [(.int .i64 v4), (.str v5), (.int .i64 v6), (.int .i64 v7)], .cells [(.int .i64 v8), (.str v9), (.int .i64 v10), (.int .i64 v11)]] (by kernel_rfl) ?_
          refine AR_fin (by kernel_rfl) ?_
          refine AE_keep [1, 2, 15, 16, 17] (env' := [(1, (.sl (l76 v2))), (2, (.fn 43 [] [])), (15, (.sl (l76 v1))), (16, (.int .i64 ((l76 v1).length : Int))), (17, (.int .i64 (IntKind.wrap .i64 (v3 + 1))))]) (by kernel_rfl) ?_
          refine AE_drop 0 (by kernel_rfl) (low_env (by simp [AV.low, AV.lows, AObj.low])) (by simp [AV.low, AV.lows, AObj.low]) (L' := []) (by kernel_rfl) ?_
          exact AE_done ⟨k2, by omega, by omega, (IntKind.wrap .i64 (v3 + 1)), rfl, rfl, h⟩
      · replace h := bifF h4 h
        refine AW_ifF (q := (decide (v3 < ((l76 v1).length : Int)))) (by kernel_rfl) h4 ?_
        refine AE_exit ?_
        refine AE_seqX ?_
        refine AE_seqX ?_
        refine AE_blkH ?_
        refine AE_seqN ?_
        refine AW_seq ?_
        refine AW_reg ?_
        refine AR_many hT 1 [6] [(6, (.bool true))] [] (by kernel_rfl) ?_
        refine AR_fin (by kernel_rfl) ?_
        refine AE_seqN ?_
        refine AE_ret ?_
        refine AE_keep [6] (env' := [(6, (.bool true))]) (by kernel_rfl) ?_
        simp only [Option.some.injEq] at h
        subst h
        exact AE_done ⟨trivial, by kernel_rfl, by kernel_rfl, by simp [AV.low, AV.lows, AObj.low], by simp [AV.low, AV.lows, AObj.low]⟩

mutual
def F62 : Nat → Int → ByteArray → Int → ByteArray → (List T57) → Int → Int → ByteArray → Int → ByteArray → (List T57) → Int → Option (Bool)
  | 0, _, _, _, _, _, _, _, _, _, _, _, _ => none
  | k + 1, v1, v2, v3, v4, v5, v6, v7, v8, v9, v10, v11, v12 =>
    (bif (v1 == v7) then
      (bif (v2.toList == v8.toList) then
        (bif (v3 == v9) then
          (bif (v4.toList == v10.toList) then
            ((F84 k v5 v11).bind fun v13 =>
              some (v13))
          else
            some (false))
        else
          some (false))
      else
        some (false))
    else
      some (false))
def F84 : Nat → (List T57) → (List T57) → Option (Bool)
  | 0, _, _ => none
  | k + 1, v1, v2 =>
    (bif (((l57 v1).length : Int) != ((l57 v2).length : Int)) then
      some (false)
    else
      F84_l0 k v2 v1 0)
def F84_l0 : Nat → (List T57) → (List T57) → Int → Option (Bool)
  | 0, _, _, _ => none
  | k2 + 1, v2, v1, v3 =>
    (bif (decide (v3 < ((l57 v1).length : Int))) then
      ((idx v1 v3).bind fun ⟨v4, v5, v6, v7, v8, v9⟩ =>
        ((idx v2 v3).bind fun ⟨v10, v11, v12, v13, v14, v15⟩ =>
          ((F62 k2 v4 v5 v6 v7 v8 v9 v10 v11 v12 v13 v14 v15).bind fun v16 =>
            (bif (!v16) then
              some (false)
            else
              F84_l0 k2 v2 v1 (IntKind.wrap .i64 (v3 + 1))))))
    else
      some (true))
end

theorem F62_step (K0 : Nat) (ih_F62 : ∀ k, k < K0 → ∀ (v1 : Int) (v2 : ByteArray) (v3 : Int) (v4 : ByteArray) (v5 : (List T57)) (v6 : Int) (v7 : Int) (v8 : ByteArray) (v9 : Int) (v10 : ByteArray) (v11 : (List T57)) (v12 : Int) (r1 : Bool), F62 k v1 v2 v3 v4 v5 v6 v7 v8 v9 v10 v11 v12 = some (r1) → Fn prog 62 [(.agg [(.int .i64 v1), (.str v2), (.int .i64 v3), (.str v4), (.sl (l57 v5)), (.int .i64 v6)]), (.agg [(.int .i64 v7), (.str v8), (.int .i64 v9), (.str v10), (.sl (l57 v11)), (.int .i64 v12)])] [] (.bool r1) []) (ih_F84 : ∀ k, k < K0 → ∀ (v1 : (List T57)) (v2 : (List T57)) (r1 : Bool), F84 k v1 v2 = some (r1) → Fn prog 84 [(.sl (l57 v1)), (.sl (l57 v2)), (.fn 62 [] [])] [] (.bool r1) []) : ∀ (v1 : Int) (v2 : ByteArray) (v3 : Int) (v4 : ByteArray) (v5 : (List T57)) (v6 : Int) (v7 : Int) (v8 : ByteArray) (v9 : Int) (v10 : ByteArray) (v11 : (List T57)) (v12 : Int) (r1 : Bool), F62 K0 v1 v2 v3 v4 v5 v6 v7 v8 v9 v10 v11 v12 = some (r1) → Fn prog 62 [(.agg [(.int .i64 v1), (.str v2), (.int .i64 v3), (.str v4), (.sl (l57 v5)), (.int .i64 v6)]), (.agg [(.int .i64 v7), (.str v8), (.int .i64 v9), (.str v10), (.sl (l57 v11)), (.int .i64 v12)])] [] (.bool r1) [] := by
  intro v1 v2 v3 v4 v5 v6 v7 v8 v9 v10 v11 v12 r1 h
  cases K0 with
  | zero => rw [F62] at h; cases h
  | succ k =>
    have hk : k < k + 1 := Nat.lt_succ_self k
    rw [F62] at h
    refine Fn_bodyK hT Go.Proofs.Try.func62 (c := Go.Proofs.Try.f62.body.getD .skip) (by kernel_rfl) (by kernel_rfl) (by kernel_rfl) ?_
    refine AW_seq ?_
    refine AW_reg ?_
    refine AR_many hT 3 [2, 3] [(2, (.ptr 0 0)), (3, (.ptr 1 0))] [.cells [(.int .i64 v1), (.str v2), (.int .i64 v3), (.str v4), (.sl (l57 v5)), (.int .i64 v6)], .cells [(.int .i64 v7), (.str v8), (.int .i64 v9), (.str v10), (.sl (l57 v11)), (.int .i64 v12)]] (by kernel_rfl) ?_
    refine AR_fin (by kernel_rfl) ?_
    refine AE_seqN ?_
    refine AW_seq ?_
    rcases Bool.eq_false_or_eq_true (v1 == v7) with h1 | h1
    · replace h := bifT h1 h
      rcases Bool.eq_false_or_eq_true (v2.toList == v8.toList) with h2 | h2
      · replace h := bifT h2 h
        rcases Bool.eq_false_or_eq_true (v3 == v9) with h3 | h3
        · replace h := bifT h3 h
          rcases Bool.eq_false_or_eq_true (v4.toList == v10.toList) with h4 | h4
          · replace h := bifT h4 h
            obtain ⟨v13, h5, h⟩ := Option.bind_eq_some_iff.mp h
            try dsimp only at h
            refine AW_reg ?_
            refine AR_many hT 5 [2, 3, 9] [(2, (.ptr 0 0)), (3, (.ptr 1 0)), (9, (.bool (v1 == v7)))] [.cells [(.int .i64 v1), (.str v2), (.int .i64 v3), (.str v4), (.sl (l57 v5)), (.int .i64 v6)], .cells [(.int .i64 v7), (.str v8), (.int .i64 v9), (.str v10), (.sl (l57 v11)), (.int .i64 v12)]] (by kernel_rfl) ?_
            refine AR_op (by kernel_rfl) (OpJ_boolK hT (q := (v1 == v7)) (by kernel_rfl) h1) ?_
            refine AR_many hT 6 [2, 3, 16] [(2, (.ptr 0 0)), (3, (.ptr 1 0)), (16, (.bool (v2.toList == v8.toList)))] [.cells [(.int .i64 v1), (.str v2), (.int .i64 v3), (.str v4), (.sl (l57 v5)), (.int .i64 v6)], .cells [(.int .i64 v7), (.str v8), (.int .i64 v9), (.str v10), (.sl (l57 v11)), (.int .i64 v12)]] (by kernel_rfl) ?_
            refine AR_op (by kernel_rfl) (OpJ_boolK hT (q := (v2.toList == v8.toList)) (by kernel_rfl) h2) ?_
            refine AR_many hT 6 [2, 3, 23] [(2, (.ptr 0 0)), (3, (.ptr 1 0)), (23, (.bool (v3 == v9)))] [.cells [(.int .i64 v1), (.str v2), (.int .i64 v3), (.str v4), (.sl (l57 v5)), (.int .i64 v6)], .cells [(.int .i64 v7), (.str v8), (.int .i64 v9), (.str v10), (.sl (l57 v11)), (.int .i64 v12)]] (by kernel_rfl) ?_
            refine AR_op (by kernel_rfl) (OpJ_boolK hT (q := (v3 == v9)) (by kernel_rfl) h3) ?_
            refine AR_many hT 6 [2, 3, 30] [(2, (.ptr 0 0)), (3, (.ptr 1 0)), (30, (.bool (v4.toList == v10.toList)))] [.cells [(.int .i64 v1), (.str v2), (.int .i64 v3), (.str v4), (.sl (l57 v5)), (.int .i64 v6)], .cells [(.int .i64 v7), (.str v8), (.int .i64 v9), (.str v10), (.sl (l57 v11)), (.int .i64 v12)]] (by kernel_rfl) ?_
            refine AR_op (by kernel_rfl) (OpJ_boolK hT (q := (v4.toList == v10.toList)) (by kernel_rfl) h4) ?_
            refine AR_many hT 4 [31, 33, 35] [(31, (.bool true)), (33, (.sl (l57 v5))), (35, (.sl (l57 v11)))] [.cells [(.int .i64 v1), (.str v2), (.int .i64 v3), (.str v4), (.sl (l57 v5)), (.int .i64 v6)], .cells [(.int .i64 v7), (.str v8), (.int .i64 v9), (.str v10), (.sl (l57 v11)), (.int .i64 v12)]] (by kernel_rfl) ?_
            refine AR_op (by kernel_rfl) (OpJ_callK (g := 84) (args := [(.sl (l57 v5)), (.sl (l57 v11)), (.fn 62 [] [])]) (by kernel_rfl) Go.Proofs.Try.func84 (by kernel_rfl) (by kernel_rfl) (Fn_pure (ih_F84 k hk v5 v11 v13 h5) (by simp [AV.low, AV.lows, AObj.low]) (by simp [AV.low, AV.lows, AObj.low]))) ?_
            refine AR_many hT 2 [4] [(4, (.bool v13))] [.cells [(.int .i64 v1), (.str v2), (.int .i64 v3), (.str v4), (.sl (l57 v5)), (.int .i64 v6)], .cells [(.int .i64 v7), (.str v8), (.int .i64 v9), (.str v10), (.sl (l57 v11)), (.int .i64 v12)]] (by kernel_rfl) ?_
            refine AR_fin (by kernel_rfl) ?_
            refine AE_seqN ?_
            refine AE_ret ?_
            refine AE_keep [4] (env' := [(4, (.bool v13))]) (by kernel_rfl) ?_
            simp only [Option.some.injEq] at h
            subst h
            exact AE_done ⟨trivial, by kernel_rfl, by kernel_rfl, by simp [AV.low, AV.lows, AObj.low], by simp [AV.low, AV.lows, AObj.low]⟩
          · replace h := bifF h4 h
            refine AW_reg ?_
            refine AR_many hT 5 [2, 3, 9] [(2, (.ptr 0 0)), (3, (.ptr 1 0)), (9, (.bool (v1 == v7)))] [.cells [(.int .i64 v1), (.str v2), (.int .i64 v3), (.str v4), (.sl (l57 v5)), (.int .i64 v6)], .cells [(.int .i64 v7), (.str v8), (.int .i64 v9), (.str v10), (.sl (l57 v11)), (.int .i64 v12)]] (by kernel_rfl) ?_
            refine AR_op (by kernel_rfl) (OpJ_boolK hT (q := (v1 == v7)) (by kernel_rfl) h1) ?_
            refine AR_many hT 6 [2, 3, 16] [(2, (.ptr 0 0)), (3, (.ptr 1 0)), (16, (.bool (v2.toList == v8.toList)))] [.cells [(.int .i64 v1), (.str v2), (.int .i64 v3), (.str v4), (.sl (l57 v5)), (.int .i64 v6)], .cells [(.int .i64 v7), (.str v8), (.int .i64 v9), (.str v10), (.sl (l57 v11)), (.int .i64 v12)]] (by kernel_rfl) ?_
            refine AR_op (by kernel_rfl) (OpJ_boolK hT (q := (v2.toList == v8.toList)) (by kernel_rfl) h2) ?_
            refine AR_many hT 6 [2, 3, 23] [(2, (.ptr 0 0)), (3, (.ptr 1 0)), (23, (.bool (v3 == v9)))] [.cells [(.int .i64 v1), (.str v2), (.int .i64 v3), (.str v4), (.sl (l57 v5)), (.int .i64 v6)], .cells [(.int .i64 v7), (.str v8), (.int .i64 v9), (.str v10), (.sl (l57 v11)), (.int .i64 v12)]] (by kernel_rfl) ?_
            refine AR_op (by kernel_rfl) (OpJ_boolK hT (q := (v3 == v9)) (by kernel_rfl) h3) ?_
            refine AR_many hT 6 [2, 3, 30] [(2, (.ptr 0 0)), (3, (.ptr 1 0)), (30, (.bool (v4.toList == v10.toList)))] [.cells [(.int .i64 v1), (.str v2), (.int .i64 v3), (.str v4), (.sl (l57 v5)), (.int .i64 v6)], .cells [(.int .i64 v7), (.str v8), (.int .i64 v9), (.str v10), (.sl (l57 v11)), (.int .i64 v12)]] (by kernel_rfl) ?_
            refine AR_op (by kernel_rfl) (OpJ_boolK hT (q := (v4.toList == v10.toList)) (by kernel_rfl) h4) ?_
            refine AR_many hT 7 [4] [(4, (.bool false))] [.cells [(.int .i64 v1), (.str v2), (.int .i64 v3), (.str v4), (.sl (l57 v5)), (.int .i64 v6)], .cells [(.int .i64 v7), (.str v8), (.int .i64 v9), (.str v10), (.sl (l57 v11)), (.int .i64 v12)]] (by kernel_rfl) ?_
            refine AR_fin (by kernel_rfl) ?_
            refine AE_seqN ?_
            refine AE_ret ?_
            refine AE_keep [4] (env' := [(4, (.bool false))]) (by kernel_rfl) ?_
            simp only [Option.some.injEq] at h
            subst h
            exact AE_done ⟨trivial, by kernel_rfl, by kernel_rfl, by simp [AV.low, AV.lows, AObj.low], by simp [AV.low, AV.lows, AObj.low]⟩
        · replace h := bifF h3 h
          refine AW_reg ?_
          refine AR_many hT 5 [2, 3, 9] [(2, (.ptr 0 0)), (3, (.ptr 1 0)), (9, (.bool (v1 == v7)))] [.cells [(.int .i64 v1), (.str v2), (.int .i64 v3), (.str v4), (.sl (l57 v5)), (.int .i64 v6)], .cells [(.int .i64 v7), (.str v8), (.int .i64 v9), (.str v10), (.sl (l57 v11)), (.int .i64 v12)]] (by kernel_rfl) ?_
          refine AR_op (by kernel_rfl) (OpJ_boolK hT (q := (v1 == v7)) (by kernel_rfl) h1) ?_
          refine AR_many hT 6 [2, 3, 16] [(2, (.ptr 0 0)), (3, (.ptr 1 0)), (16, (.bool (v2.toList == v8.toList)))] [.cells [(.int .i64 v1), (.str v2), (.int .i64 v3), (.str v4), (.sl (l57 v5)), (.int .i64 v6)], .cells [(.int .i64 v7), (.str v8), (.int .i64 v9), (.str v10), (.sl (l57 v11)), (.int .i64 v12)]] (by kernel_rfl) ?_
          refine AR_op (by kernel_rfl) (OpJ_boolK hT (q := (v2.toList == v8.toList)) (by kernel_rfl) h2) ?_
          refine AR_many hT 6 [2, 3, 23] [(2, (.ptr 0 0)), (3, (.ptr 1 0)), (23, (.bool (v3 == v9)))] [.cells [(.int .i64 v1), (.str v2), (.int .i64 v3), (.str v4), (.sl (l57 v5)), (.int .i64 v6)], .cells [(.int .i64 v7), (.str v8), (.int .i64 v9), (.str v10), (.sl (l57 v11)), (.int .i64 v12)]] (by kernel_rfl) ?_
          refine AR_op (by kernel_rfl) (OpJ_boolK hT (q := (v3 == v9)) (by kernel_rfl) h3) ?_
          refine AR_many hT 14 [4] [(4, (.bool false))] [.cells [(.int .i64 v1), (.str v2), (.int .i64 v3), (.str v4), (.sl (l57 v5)), (.int .i64 v6)], .cells [(.int .i64 v7), (.str v8), (.int .i64 v9), (.str v10), (.sl (l57 v11)), (.int .i64 v12)]] (by kernel_rfl) ?_
          refine AR_fin (by kernel_rfl) ?_
          refine AE_seqN ?_
          refine AE_ret ?_
          refine AE_keep [4] (env' := [(4, (.bool false))]) (by kernel_rfl) ?_
          simp only [Option.some.injEq] at h
          subst h
          exact AE_done ⟨trivial, by kernel_rfl, by kernel_rfl, by simp [AV.low, AV.lows, AObj.low], by simp [AV.low, AV.lows, AObj.low]⟩
      · replace h := bifF h2 h
        refine AW_reg ?_
        refine AR_many hT 5 [2, 3, 9] [(2, (.ptr 0 0)), (3, (.ptr 1 0)), (9, (.bool (v1 == v7)))] [.cells [(.int .i64 v1), (.str v2), (.int .i64 v3), (.str v4), (.sl (l57 v5)), (.int .i64 v6)], .cells [(.int .i64 v7), (.str v8), (.int .i64 v9), (.str v10), (.sl (l57 v11)), (.int .i64 v12)]] (by kernel_rfl) ?_
        refine AR_op (by kernel_rfl) (OpJ_boolK hT (q := (v1 == v7)) (by kernel_rfl) h1) ?_
        refine AR_many hT 6 [2, 3, 16] [(2, (.ptr 0 0)), (3, (.ptr 1 0)), (16, (.bool (v2.toList == v8.toList)))] [.cells [(.int .i64 v1), (.str v2), (.int .i64 v3), (.str v4), (.sl (l57 v5)), (.int .i64 v6)], .cells [(.int .i64 v7), (.str v8), (.int .i64 v9), (.str v10), (.sl (l57 v11)), (.int .i64 v12)]] (by kernel_rfl) ?_
        refine AR_op (by kernel_rfl) (OpJ_boolK hT (q := (v2.toList == v8.toList)) (by kernel_rfl) h2) ?_
        refine AR_many hT 21 [4] [(4, (.bool false))] [.cells [(.int .i64 v1), (.str v2), (.int .i64 v3), (.str v4), (.sl (l57 v5)), (.int .i64 v6)], .cells [(.int .i64 v7), (.str v8), (.int .i64 v9), (.str v10), (.sl (l57 v11)), (.int .i64 v12)]] (by kernel_rfl) ?_
        refine AR_fin (by kernel_rfl) ?_
        refine AE_seqN ?_
        refine AE_ret ?_
        refine AE_keep [4] (env' := [(4, (.bool false))]) (by kernel_rfl) ?_
        simp only [Option.some.injEq] at h
        subst h
        exact AE_done ⟨trivial, by kernel_rfl, by kernel_rfl, by simp [AV.low, AV.lows, AObj.low], by simp [AV.low, AV.lows, AObj.low]⟩
    · replace h := bifF h1 h
      refine AW_reg ?_
      refine AR_many hT 5 [2, 3, 9] [(2, (.ptr 0 0)), (3, (.ptr 1 0)), (9, (.bool (v1 == v7)))] [.cells [(.int .i64 v1), (.str v2), (.int .i64 v3), (.str v4), (.sl (l57 v5)), (.int .i64 v6)], .cells [(.int .i64 v7), (.str v8), (.int .i64 v9), (.str v10), (.sl (l57 v11)), (.int .i64 v12)]] (by kernel_rfl) ?_
      refine AR_op (by kernel_rfl) (OpJ_boolK hT (q := (v1 == v7)) (by kernel_rfl) h1) ?_
      refine AR_many hT 28 [4] [(4, (.bool false))] [.cells [(.int .i64 v1), (.str v2), (.int .i64 v3), (.str v4), (.sl (l57 v5)), (.int .i64 v6)], .cells [(.int .i64 v7), (.str v8), (.int .i64 v9), (.str v10), (.sl (l57 v11)), (.int .i64 v12)]] (by kernel_rfl) ?_
      refine AR_fin (by kernel_rfl) ?_
      refine AE_seqN ?_
      refine AE_ret ?_
      refine AE_keep [4] (env' := [(4, (.bool false))]) (by kernel_rfl) ?_
      simp only [Option.some.injEq] at h
      subst h
      exact AE_done ⟨trivial, by kernel_rfl, by kernel_rfl, by simp [AV.low, AV.lows, AObj.low], by simp [AV.low, AV.lows, AObj.low]⟩

theorem F84_step (K0 : Nat) (ih_F62 : ∀ k, k < K0 → ∀ (v1 : Int) (v2 : ByteArray) (v3 : Int) (v4 : ByteArray) (v5 : (List T57)) (v6 : Int) (v7 : Int) (v8 : ByteArray) (v9 : Int) (v10 : ByteArray) (v11 : (List T57)) (v12 : Int) (r1 : Bool), F62 k v1 v2 v3 v4 v5 v6 v7 v8 v9 v10 v11 v12 = some (r1) → Fn prog 62 [(.agg [(.int .i64 v1), (.str v2), (.int .i64 v3), (.str v4), (.sl (l57 v5)), (.int .i64 v6)]), (.agg [(.int .i64 v7), (.str v8), (.int .i64 v9), (.str v10), (.sl (l57 v11)), (.int .i64 v12)])] [] (.bool r1) []) (ih_F84 : ∀ k, k < K0 → ∀ (v1 : (List T57)) (v2 : (List T57)) (r1 : Bool), F84 k v1 v2 = some (r1) → Fn prog 84 [(.sl (l57 v1)), (.sl (l57 v2)), (.fn 62 [] [])] [] (.bool r1) []) : ∀ (v1 : (List T57)) (v2 : (List T57)) (r1 : Bool), F84 K0 v1 v2 = some (r1) → Fn prog 84 [(.sl (l57 v1)), (.sl (l57 v2)), (.fn 62 [] [])] [] (.bool r1) [] := by
  intro v1 v2 r1 h
  cases K0 with
  | zero => rw [F84] at h; cases h
  | succ k =>
    have hk : k < k + 1 := Nat.lt_succ_self k
    rw [F84] at h
    refine Fn_bodyK hT Go.Proofs.Try.func84 (c := Go.Proofs.Try.f84.body.getD .skip) (by kernel_rfl) (by kernel_rfl) (by kernel_rfl) ?_
    refine AW_seq ?_
    refine AW_reg ?_
    refine AR_many hT 1 [0, 1, 2] [(0, (.sl (l57 v1))), (1, (.sl (l57 v2))), (2, (.fn 62 [] []))] [] (by kernel_rfl) ?_
    refine AR_fin (by kernel_rfl) ?_
    refine AE_seqN ?_
    refine AW_seq ?_
    refine AW_seq ?_
    refine AW_reg ?_
    refine AR_many hT 5 [0, 1, 2, 14] [(0, (.sl (l57 v1))), (1, (.sl (l57 v2))), (2, (.fn 62 [] [])), (14, (.bool (((l57 v1).length : Int) != ((l57 v2).length : Int))))] [] (by kernel_rfl) ?_
    refine AR_fin (by kernel_rfl) ?_
    refine AE_seqN ?_
    rcases Bool.eq_false_or_eq_true (((l57 v1).length : Int) != ((l57 v2).length : Int)) with h1 | h1
    · replace h := bifT h1 h
      refine AW_ifT (q := (((l57 v1).length : Int) != ((l57 v2).length : Int))) (by kernel_rfl) h1 ?_
      refine AW_seq ?_
      refine AW_reg ?_
      refine AR_many hT 1 [6] [(6, (.bool false))] [] (by kernel_rfl) ?_
      refine AR_fin (by kernel_rfl) ?_
      refine AE_seqN ?_
      refine AE_ret ?_
      refine AE_seqR ?_
      refine AE_keep [6] (env' := [(6, (.bool false))]) (by kernel_rfl) ?_
      simp only [Option.some.injEq] at h
      subst h
      exact AE_done ⟨trivial, by kernel_rfl, by kernel_rfl, by simp [AV.low, AV.lows, AObj.low], by simp [AV.low, AV.lows, AObj.low]⟩
    · replace h := bifF h1 h
      refine AW_ifF (q := (((l57 v1).length : Int) != ((l57 v2).length : Int))) (by kernel_rfl) h1 ?_
      refine AE_skip ?_
      refine AE_seqN ?_
      refine AW_seq ?_
      refine AW_seq ?_
      refine AW_reg ?_
      refine AR_many hT 3 [1, 2, 15, 16, 17] [(1, (.sl (l57 v2))), (2, (.fn 62 [] [])), (15, (.sl (l57 v1))), (16, (.int .i64 ((l57 v1).length : Int))), (17, (.int .i64 0))] [] (by kernel_rfl) ?_
      refine AR_fin (by kernel_rfl) ?_
      refine AE_seqN ?_
      refine AW_block ?_
      refine AW_keep [1, 2, 15, 16, 17] (env' := [(1, (.sl (l57 v2))), (2, (.fn 62 [] [])), (15, (.sl (l57 v1))), (16, (.int .i64 ((l57 v1).length : Int))), (17, (.int .i64 0))]) (by kernel_rfl) ?_
      refine AW_loop (fun n env L => n ≤ k ∧ ∃ (v3 : Int), env = [(1, (.sl (l57 v2))), (2, (.fn 62 [] [])), (15, (.sl (l57 v1))), (16, (.int .i64 ((l57 v1).length : Int))), (17, (.int .i64 v3))] ∧ L = [] ∧ F84_l0 n v2 v1 v3 = some (r1)) k ⟨Nat.le_refl _, 0, rfl, rfl, h⟩ ?_
      rintro n _ _ ⟨hn, v3, rfl, rfl, h⟩
      cases n with
      | zero => rw [F84_l0] at h; cases h
      | succ k2 =>
        have h3 : k2 < (k + 1) := by omega
        rw [F84_l0] at h
        refine AW_seq ?_
        refine AW_reg ?_
        refine AR_many hT 1 [1, 2, 15, 16, 17, 18] [(1, (.sl (l57 v2))), (2, (.fn 62 [] [])), (15, (.sl (l57 v1))), (16, (.int .i64 ((l57 v1).length : Int))), (17, (.int .i64 v3)), (18, (.bool (decide (v3 < ((l57 v1).length : Int)))))] [] (by kernel_rfl) ?_
        refine AR_fin (by kernel_rfl) ?_
        refine AE_seqN ?_
        refine AW_seq ?_
        rcases Bool.eq_false_or_eq_true (decide (v3 < ((l57 v1).length : Int))) with h4 | h4
        · replace h := bifT h4 h
          refine AW_ifT (q := (decide (v3 < ((l57 v1).length : Int)))) (by kernel_rfl) h4 ?_
          refine AE_skip ?_
          refine AE_seqN ?_
          refine AW_seq ?_
          refine AW_block ?_
          refine AW_seq ?_
          obtain ⟨⟨v4, v5, v6, v7, v8, v9⟩, h5, h⟩ := Option.bind_eq_some_iff.mp h
          try dsimp only at h
          refine AW_reg ?_
          refine AR_many hT 1 [1, 2, 15, 16, 17, 19] [(1, (.sl (l57 v2))), (2, (.fn 62 [] [])), (15, (.sl (l57 v1))), (16, (.int .i64 ((l57 v1).length : Int))), (17, (.int .i64 v3)), (19, (.int .i64 v3))] [] (by kernel_rfl) ?_
          refine AR_op (by kernel_rfl) (OpJ_indexK hT (xs := l57 v1) (j := v3) (n := 6) (by kernel_rfl) (i57 h5) (by kernel_rfl)) ?_
          refine AR_many hT 4 [1, 2, 7, 8, 15, 16, 17] [(1, (.sl (l57 v2))), (2, (.fn 62 [] [])), (7, (.int .i64 v3)), (8, (.ptr 0 0)), (15, (.sl (l57 v1))), (16, (.int .i64 ((l57 v1).length : Int))), (17, (.int .i64 v3))] [.cells [(.int .i64 v4), (.str v5), (.int .i64 v6), (.str v7), (.sl (l57 v8)), (.int .i64 v9)]] (by kernel_rfl) ?_
          refine AR_fin (by kernel_rfl) ?_
          refine AE_seqN ?_
          refine AW_seq ?_
          obtain ⟨⟨v10, v11, v12, v13, v14, v15⟩, h6, h⟩ := Option.bind_eq_some_iff.mp h
          try dsimp only at h
          refine AW_reg ?_
          refine AR_many hT 2 [1, 2, 8, 15, 16, 17, 22, 23] [(1, (.sl (l57 v2))), (2, (.fn 62 [] [])), (8, (.ptr 0 0)), (15, (.sl (l57 v1))), (16, (.int .i64 ((l57 v1).length : Int))), (17, (.int .i64 v3)), (22, (.sl (l57 v2))), (23, (.int .i64 v3))] [.cells [(.int .i64 v4), (.str v5), (.int .i64 v6), (.str v7), (.sl (l57 v8)), (.int .i64 v9)]] (by kernel_rfl) ?_
          refine AR_op (by kernel_rfl) (OpJ_indexK hT (xs := l57 v2) (j := v3) (n := 6) (by kernel_rfl) (i57 h6) (by kernel_rfl)) ?_
          refine AR_many hT 3 [1, 2, 8, 9, 15, 16, 17] [(1, (.sl (l57 v2))), (2, (.fn 62 [] [])), (8, (.ptr 0 0)), (9, (.ptr 1 0)), (15, (.sl (l57 v1))), (16, (.int .i64 ((l57 v1).length : Int))), (17, (.int .i64 v3))] [.cells [(.int .i64 v4), (.str v5), (.int .i64 v6), (.str v7), (.sl (l57 v8)), (.int .i64 v9)], .cells [(.int .i64 v10), (.str v11), (.int .i64 v12), (.str v13), (.sl (l57 v14)), (.int .i64 v15)]] (by kernel_rfl) ?_
          refine AR_fin (by kernel_rfl) ?_
          refine AE_seqN ?_
          refine AW_seq ?_
          obtain ⟨v16, h7, h⟩ := Option.bind_eq_some_iff.mp h
          try dsimp only at h
          refine AW_reg ?_
          refine AR_many hT 3 [1, 2, 15, 16, 17, 26, 27, 28] [(1, (.sl (l57 v2))), (2, (.fn 62 [] [])), (15, (.sl (l57 v1))), (16, (.int .i64 ((l57 v1).length : Int))), (17, (.int .i64 v3)), (26, (.fn 62 [] [])), (27, (.agg [(.int .i64 v4), (.str v5), (.int .i64 v6), (.str v7), (.sl (l57 v8)), (.int .i64 v9)])), (28, (.agg [(.int .i64 v10), (.str v11), (.int .i64 v12), (.str v13), (.sl (l57 v14)), (.int .i64 v15)]))] [.cells [(.int .i64 v4), (.str v5), (.int .i64 v6), (.str v7), (.sl (l57 v8)), (.int .i64 v9)], .cells [(.int .i64 v10), (.str v11), (.int .i64 v12), (.str v13), (.sl (l57 v14)), (.int .i64 v15)]] (by kernel_rfl) ?_
          refine AR_op (by kernel_rfl) (OpJ_callK (g := 62) (args := [(.agg [(.int .i64 v4), (.str v5), (.int .i64 v6), (.str v7), (.sl (l57 v8)), (.int .i64 v9)]), (.agg [(.int .i64 v10), (.str v11), (.int .i64 v12), (.str v13), (.sl (l57 v14)), (.int .i64 v15)])]) (by kernel_rfl) Go.Proofs.Try.func62 (by kernel_rfl) (by kernel_rfl) (Fn_pure (ih_F62 k2 h3 v4 v5 v6 v7 v8 v9 v10 v11 v12 v13 v14 v15 v16 h7) (by simp [AV.low, AV.lows, AObj.low]) (by simp [AV.low, AV.lows, AObj.low]))) ?_
          refine AR_many hT 1 [1, 2, 15, 16, 17, 30] [(1, (.sl (l57 v2))), (2, (.fn 62 [] [])), (15, (.sl (l57 v1))), (16, (.int .i64 ((l57 v1).length : Int))), (17, (.int .i64 v3)), (30, (.bool (!v16)))] [.cells [(.int .i64 v4), (.str v5), (.int .i64 v6), (.str v7), (.sl (l57 v8)), (.int .i64 v9)], .cells [(.int .i64 v10), (.str v11), (.int .i64 v12), (.str v13), (.sl (l57 v14)), (.int .i64 v15)]] (by kernel_rfl) ?_
          refine AR_fin (by kernel_rfl) ?_
          refine AE_seqN ?_
          rcases Bool.eq_false_or_eq_true (!v16) with h8 | h8
          · replace h := bifT h8 h
            refine AW_ifT (q := (!v16)) (by kernel_rfl) h8 ?_
            refine AW_seq ?_
            refine AW_reg ?_
            refine AR_many hT 1 [6] [(6, (.bool false))] [.cells [(.int .i64 v4), (.str v5), (.int .i64 v6), (.str v7), (.sl (l57 v8)), (.int .i64 v9)], .cells [(.int .i64 v10), (.str v11), (.int .i64 v12), (.str v13), (.sl (l57 v14)), (.int .i64 v15)]] (by kernel_rfl) ?_
            refine AR_fin (by kernel_rfl) ?_
            refine AE_seqN ?_
            refine AE_ret ?_
            refine AE_blkR ?_
            refine AE_seqR ?_
            refine AE_seqR ?_
            refine AE_blkR ?_
            refine AE_seqR ?_
            refine AE_keep [6] (env' := [(6, (.bool false))]) (by kernel_rfl) ?_
            simp only [Option.some.injEq] at h
            subst h
            exact AE_done ⟨trivial, by kernel_rfl, by kernel_rfl, by simp [AV.low, AV.lows, AObj.low], by simp [AV.low, AV.lows, AObj.low]⟩
          · replace h := bifF h8 h
            refine AW_ifF (q := (!v16)) (by kernel_rfl) h8 ?_
            refine AE_skip ?_
            refine AE_blkN ?_
            refine AE_seqN ?_
            refine AW_reg ?_
            refine AR_many hT 2 [1, 2, 15, 16, 17] [(1, (.sl (l57 v2))), (2, (.fn 62 [] [])), (15, (.sl (l57 v1))), (16, (.int .i64 ((l57 v1).length : Int))), (17, (.int .i64 (IntKind.wrap .i64 (v3 + 1))))] [.cells [(.int .i64 v4), (.str v5), (.int .i64 v6), (.str v7), (.sl (l57 v8)), (.int .i64 v9)], .cells [(.int .i64 v10), (.str v11), (.int .i64 v12), (.str v13), (.sl (l57 v14)), (.int .i64 v15)]] (by kernel_rfl) ?_
            refine AR_fin (by kernel_rfl) ?_
            refine AE_keep [1, 2, 15, 16, 17] (env' := [(1, (.sl (l57 v2))), (2, (.fn 62 [] [])), (15, (.sl (l57 v1))), (16, (.int .i64 ((l57 v1).length : Int))), (17, (.int .i64 (IntKind.wrap .i64 (v3 + 1))))]) (by kernel_rfl) ?_
            refine AE_drop 0 (by kernel_rfl) (low_env (by simp [AV.low, AV.lows, AObj.low])) (by simp [AV.low, AV.lows, AObj.low]) (L' := []) (by kernel_rfl) ?_
            exact AE_done ⟨k2, by omega, by omega, (IntKind.wrap .i64 (v3 + 1)), rfl, rfl, h⟩
        · replace h := bifF h4 h
          refine AW_ifF (q := (decide (v3 < ((l57 v1).length : Int)))) (by kernel_rfl) h4 ?_
          refine AE_exit ?_
          refine AE_seqX ?_
          refine AE_seqX ?_
          refine AE_blkH ?_
          refine AE_seqN ?_
          refine AW_seq ?_
          refine AW_reg ?_
          refine AR_many hT 1 [6] [(6, (.bool true))] [] (by kernel_rfl) ?_
          refine AR_fin (by kernel_rfl) ?_
          refine AE_seqN ?_
          refine AE_ret ?_
          refine AE_keep [6] (env' := [(6, (.bool true))]) (by kernel_rfl) ?_
          simp only [Option.some.injEq] at h
          subst h
          exact AE_done ⟨trivial, by kernel_rfl, by kernel_rfl, by simp [AV.low, AV.lows, AObj.low], by simp [AV.low, AV.lows, AObj.low]⟩

theorem F62_all (K0 : Nat) : (∀ (v1 : Int) (v2 : ByteArray) (v3 : Int) (v4 : ByteArray) (v5 : (List T57)) (v6 : Int) (v7 : Int) (v8 : ByteArray) (v9 : Int) (v10 : ByteArray) (v11 : (List T57)) (v12 : Int) (r1 : Bool), F62 K0 v1 v2 v3 v4 v5 v6 v7 v8 v9 v10 v11 v12 = some (r1) → Fn prog 62 [(.agg [(.int .i64 v1), (.str v2), (.int .i64 v3), (.str v4), (.sl (l57 v5)), (.int .i64 v6)]), (.agg [(.int .i64 v7), (.str v8), (.int .i64 v9), (.str v10), (.sl (l57 v11)), (.int .i64 v12)])] [] (.bool r1) []) ∧ (∀ (v1 : (List T57)) (v2 : (List T57)) (r1 : Bool), F84 K0 v1 v2 = some (r1) → Fn prog 84 [(.sl (l57 v1)), (.sl (l57 v2)), (.fn 62 [] [])] [] (.bool r1) []) := by
  induction K0 using Nat.strongRecOn with
  | ind K0 ih => exact ⟨F62_step K0 (fun k hk => (ih k hk).1) (fun k hk => (ih k hk).2), F84_step K0 (fun k hk => (ih k hk).1) (fun k hk => (ih k hk).2)⟩

theorem F62_ok (K0 : Nat) : ∀ (v1 : Int) (v2 : ByteArray) (v3 : Int) (v4 : ByteArray) (v5 : (List T57)) (v6 : Int) (v7 : Int) (v8 : ByteArray) (v9 : Int) (v10 : ByteArray) (v11 : (List T57)) (v12 : Int) (r1 : Bool), F62 K0 v1 v2 v3 v4 v5 v6 v7 v8 v9 v10 v11 v12 = some (r1) → Fn prog 62 [(.agg [(.int .i64 v1), (.str v2), (.int .i64 v3), (.str v4), (.sl (l57 v5)), (.int .i64 v6)]), (.agg [(.int .i64 v7), (.str v8), (.int .i64 v9), (.str v10), (.sl (l57 v11)), (.int .i64 v12)])] [] (.bool r1) [] := (F62_all K0).1

theorem F84_ok (K0 : Nat) : ∀ (v1 : (List T57)) (v2 : (List T57)) (r1 : Bool), F84 K0 v1 v2 = some (r1) → Fn prog 84 [(.sl (l57 v1)), (.sl (l57 v2)), (.fn 62 [] [])] [] (.bool r1) [] := (F62_all K0).2

mutual
def F46 : Nat → (List T69) → (List T69) → Option (Bool)
  | 0, _, _ => none
  | k + 1, v1, v2 =>
    (bif (((l69 v1).length : Int) != ((l69 v2).length : Int)) then
      some (false)
    else
      F46_l0 k v2 v1 0)
def F46_l0 : Nat → (List T69) → (List T69) → Int → Option (Bool)
  | 0, _, _, _ => none
  | k2 + 1, v2, v1, v3 =>
    (bif (decide (v3 < ((l69 v1).length : Int))) then
      ((idx v1 v3).bind fun ⟨v4, v5, v6, v7, v8, v9, v10⟩ =>
        ((idx v2 v3).bind fun ⟨v11, v12, v13, v14, v15, v16, v17⟩ =>
          ((F47 k2 v4 v5 v6 v7 v8 v9 v10 v11 v12 v13 v14 v15 v16 v17).bind fun v18 =>
            (bif (!v18) then
              some (false)
            else
              F46_l0 k2 v2 v1 (IntKind.wrap .i64 (v3 + 1))))))
    else
      some (true))
def F47 : Nat → Int → ByteArray → ByteArray → (List T57) → (List T69) → (List T69) → Int → Int → ByteArray → ByteArray → (List T57) → (List T69) → (List T69) → Int → Option (Bool)
  | 0, _, _, _, _, _, _, _, _, _, _, _, _, _, _ => none
  | k + 1, v1, v2, v3, v4, v5, v6, v7, v8, v9, v10, v11, v12, v13, v14 =>
    (bif (v1 == v8) then
      (bif (v2.toList == v9.toList) then
        (bif (v3.toList == v10.toList) then
          ((F84 k v4 v11).bind fun v15 =>
            (bif v15 then
              ((F46 k v5 v12).bind fun v16 =>
                (bif v16 then
                  ((F46 k v6 v13).bind fun v17 =>
                    some (v17))
                else
                  some (false)))
            else
              some (false)))
        else
          some (false))
      else
        some (false))
    else
      some (false))
end

theorem F47_step (K0 : Nat) (ih_F47 : ∀ k, k < K0 → ∀ (v1 : Int) (v2 : ByteArray) (v3 : ByteArray) (v4 : (List T57)) (v5 : (List T69)) (v6 : (List T69)) (v7 : Int) (v8 : Int) (v9 : ByteArray) (v10 : ByteArray) (v11 : (List T57)) (v12 : (List T69)) (v13 : (List T69)) (v14 : Int) (r1 : Bool), F47 k v1 v2 v3 v4 v5 v6 v7 v8 v9 v10 v11 v12 v13 v14 = some (r1) → Fn prog 47 [(.agg [(.int .i64 v1), (.str v2), (.str v3), (.sl (l57 v4)), (.sl (l69 v5)), (.sl (l69 v6)), (.int .i64 v7)]), (.agg [(.int .i64 v8), (.str v9), (.str v10), (.sl (l57 v11)), (.sl (l69 v12)), (.sl (l69 v13)), (.int .i64 v14)])] [] (.bool r1) []) (ih_F46 : ∀ k, k < K0 → ∀ (v1 : (List T69)) (v2 : (List T69)) (r1 : Bool), F46 k v1 v2 = some (r1) → Fn prog 46 [(.sl (l69 v1)), (.sl (l69 v2)), (.fn 47 [] [])] [] (.bool r1) []) : ∀ (v1 : Int) (v2 : ByteArray) (v3 : ByteArray) (v4 : (List T57)) (v5 : (List T69)) (v6 : (List T69)) (v7 : Int) (v8 : Int) (v9 : ByteArray) (v10 : ByteArray) (v11 : (List T57)) (v12 : (List T69)) (v13 : (List T69)) (v14 : Int) (r1 : Bool), F47 K0 v1 v2 v3 v4 v5 v6 v7 v8 v9 v10 v11 v12 v13 v14 = some (r1) → Fn prog 47 [(.agg [(.int .i64 v1), (.str v2), (.str v3), (.sl (l57 v4)), (.sl (l69 v5)), (.sl (l69 v6)), (.int .i64 v7)]), (.agg [(.int .i64 v8), (.str v9), (.str v10), (.sl (l57 v11)), (.sl (l69 v12)), (.sl (l69 v13)), (.int .i64 v14)])] [] (.bool r1) [] := by
  intro v1 v2 v3 v4 v5 v6 v7 v8 v9 v10 v11 v12 v13 v14 r1 h
  cases K0 with
  | zero => rw [F47] at h; cases h
  | succ k =>
    have hk : k < k + 1 := Nat.lt_succ_self k
    rw [F47] at h
    refine Fn_bodyK hT Go.Proofs.Try.func47 (c := Go.Proofs.Try.f47.body.getD .skip) (by kernel_rfl) (by kernel_rfl) (by kernel_rfl) ?_
    refine AW_seq ?_
    refine AW_reg ?_
    refine AR_many hT 3 [2, 3] [(2, (.ptr 0 0)), (3, (.ptr 1 0))] [.cells [(.int .i64 v1), (.str v2), (.str v3), (.sl (l57 v4)), (.sl (l69 v5)), (.sl (l69 v6)), (.int .i64 v7)], .cells [(.int .i64 v8), (.str v9), (.str v10), (.sl (l57 v11)), (.sl (l69 v12)), (.sl (l69 v13)), (.int .i64 v14)]] (by kernel_rfl) ?_
    refine AR_fin (by kernel_rfl) ?_
    refine AE_seqN ?_
    refine AW_seq ?_
    rcases Bool.eq_false_or_eq_true (v1 == v8) with h1 | h1
    · replace h := bifT h1 h
      rcases Bool.eq_false_or_eq_true (v2.toList == v9.toList) with h2 | h2
      · replace h := bifT h2 h
        rcases Bool.eq_false_or_eq_true (v3.toList == v10.toList) with h3 | h3
        · replace h := bifT h3 h
          obtain ⟨v15, h4, h⟩ := Option.bind_eq_some_iff.mp h
          try dsimp only at h
          rcases Bool.eq_false_or_eq_true v15 with h5 | h5
          · replace h := bifT h5 h
            obtain ⟨v16, h6, h⟩ := Option.bind_eq_some_iff.mp h
            try dsimp only at h
            rcases Bool.eq_false_or_eq_true v16 with h7 | h7
            · replace h := bifT h7 h
              obtain ⟨v17, h8, h⟩ := Option.bind_eq_some_iff.mp h
              try dsimp only at h
              refine AW_reg ?_
              refine AR_many hT 5 [2, 3, 9] [(2, (.ptr 0 0)), (3, (.ptr 1 0)), (9, (.bool (v1 == v8)))] [.cells [(.int .i64 v1), (.str v2), (.str v3), (.sl (l57 v4)), (.sl (l69 v5)), (.sl (l69 v6)), (.int .i64 v7)], .cells [(.int .i64 v8), (.str v9), (.str v10), (.sl (l57 v11)), (.sl (l69 v12)), (.sl (l69 v13)), (.int .i64 v14)]] (by kernel_rfl) ?_
              refine AR_op (by kernel_rfl) (OpJ_boolK hT (q := (v1 == v8)) (by kernel_rfl) h1) ?_
              refine AR_many hT 6 [2, 3, 16] [(2, (.ptr 0 0)), (3, (.ptr 1 0)), (16, (.bool (v2.toList == v9.toList)))] [.cells [(.int .i64 v1), (.str v2), (.str v3), (.sl (l57 v4)), (.sl (l69 v5)), (.sl (l69 v6)), (.int .i64 v7)], .cells [(.int .i64 v8), (.str v9), (.str v10), (.sl (l57 v11)), (.sl (l69 v12)), (.sl (l69 v13)), (.int .i64 v14)]] (by kernel_rfl) ?_
              refine AR_op (by kernel_rfl) (OpJ_boolK hT (q := (v2.toList == v9.toList)) (by kernel_rfl) h2) ?_
              refine AR_many hT 6 [2, 3, 23] [(2, (.ptr 0 0)), (3, (.ptr 1 0)), (23, (.bool (v3.toList == v10.toList)))] [.cells [(.int .i64 v1), (.str v2), (.str v3), (.sl (l57 v4)), (.sl (l69 v5)), (.sl (l69 v6)), (.int .i64 v7)], .cells [(.int .i64 v8), (.str v9), (.str v10), (.sl (l57 v11)), (.sl (l69 v12)), (.sl (l69 v13)), (.int .i64 v14)]] (by kernel_rfl) ?_
              refine AR_op (by kernel_rfl) (OpJ_boolK hT (q := (v3.toList == v10.toList)) (by kernel_rfl) h3) ?_
              refine AR_many hT 4 [2, 3, 24, 26, 28] [(2, (.ptr 0 0)), (3, (.ptr 1 0)), (24, (.bool true)), (26, (.sl (l57 v4))), (28, (.sl (l57 v11)))] [.cells [(.int .i64 v1), (.str v2), (.str v3), (.sl (l57 v4)), (.sl (l69 v5)), (.sl (l69 v6)), (.int .i64 v7)], .cells [(.int .i64 v8), (.str v9), (.str v10), (.sl (l57 v11)), (.sl (l69 v12)), (.sl (l69 v13)), (.int .i64 v14)]] (by kernel_rfl) ?_
              refine AR_op (by kernel_rfl) (OpJ_callK (g := 84) (args := [(.sl (l57 v4)), (.sl (l57 v11)), (.fn 62 [] [])]) (by kernel_rfl) Go.Proofs.Try.func84 (by kernel_rfl) (by kernel_rfl) (Fn_pure (F84_ok k v4 v11 v15 h4) (by simp [AV.low, AV.lows, AObj.low]) (by simp [AV.low, AV.lows, AObj.low]))) ?_
              refine AR_many hT 1 [2, 3, 30] [(2, (.ptr 0 0)), (3, (.ptr 1 0)), (30, (.bool v15))] [.cells [(.int .i64 v1), (.str v2), (.str v3), (.sl (l57 v4)), (.sl (l69 v5)), (.sl (l69 v6)), (.int .i64 v7)], .cells [(.int .i64 v8), (.str v9), (.str v10), (.sl (l57 v11)), (.sl (l69 v12)), (.sl (l69 v13)), (.int .i64 v14)]] (by kernel_rfl) ?_
              refine AR_op (by kernel_rfl) (OpJ_boolK hT (q := v15) (by kernel_rfl) h5) ?_
              refine AR_many hT 4 [2, 3, 31, 33, 35] [(2, (.ptr 0 0)), (3, (.ptr 1 0)), (31, (.bool true)), (33, (.sl (l69 v5))), (35, (.sl (l69 v12)))] [.cells [(.int .i64 v1), (.str v2), (.str v3), (.sl (l57 v4)), (.sl (l69 v5)), (.sl (l69 v6)), (.int .i64 v7)], .cells [(.int .i64 v8), (.str v9), (.str v10), (.sl (l57 v11)), (.sl (l69 v12)), (.sl (l69 v13)), (.int .i64 v14)]] (by kernel_rfl) ?_
              refine AR_op (by kernel_rfl) (OpJ_callK (g := 46) (args := [(.sl (l69 v5)), (.sl (l69 v12)), (.fn 47 [] [])]) (by kernel_rfl) Go.Proofs.Try.func46 (by kernel_rfl) (by kernel_rfl) (Fn_pure (ih_F46 k hk v5 v12 v16 h6) (by simp [AV.low, AV.lows, AObj.low]) (by simp [AV.low, AV.lows, AObj.low]))) ?_
              refine AR_many hT 1 [2, 3, 37] [(2, (.ptr 0 0)), (3, (.ptr 1 0)), (37, (.bool v16))] [.cells [(.int .i64 v1), (.str v2), (.str v3), (.sl (l57 v4)), (.sl (l69 v5)), (.sl (l69 v6)), (.int .i64 v7)], .cells [(.int .i64 v8), (.str v9), (.str v10), (.sl (l57 v11)), (.sl (l69 v12)), (.sl (l69 v13)), (.int .i64 v14)]] (by kernel_rfl) ?_
              refine AR_op (by kernel_rfl) (OpJ_boolK hT (q := v16) (by kernel_rfl) h7) ?_
              refine AR_many hT 4 [38, 40, 42] [(38, (.bool true)), (40, (.sl (l69 v6))), (42, (.sl (l69 v13)))] [.cells [(.int .i64 v1), (.str v2), (.str v3), (.sl (l57 v4)), (.sl (l69 v5)), (.sl (l69 v6)), (.int .i64 v7)], .cells [(.int .i64 v8), (.str v9), (.str v10), (.sl (l57 v11)), (.sl (l69 v12)), (.sl (l69 v13)), (.int .i64 v14)]] (by kernel_rfl) ?_
              refine AR_op (by kernel_rfl) (OpJ_callK (g := 46) (args := [(.sl (l69 v6)), (.sl (l69 v13)), (.fn 47 [] [])]) (by kernel_rfl) Go.Proofs.Try.func46 (by kernel_rfl) (by kernel_rfl) (Fn_pure (ih_F46 k hk v6 v13 v17 h8) (by simp [AV.low, AV.lows, AObj.low]) (by simp [AV.low, AV.lows, AObj.low]))) ?_
              refine AR_many hT 2 [4] [(4, (.bool v17))] [.cells [(.int .i64 v1), (.str v2), (.str v3), (.sl (l57 v4)), (.sl (l69 v5)), (.sl (l69 v6)), (.int .i64 v7)], .cells [(.int .i64 v8), (.str v9), (.str v10), (.sl (l57 v11)), (.sl (l69 v12)), (.sl (l69 v13)), (.int .i64 v14)]] (by kernel_rfl) ?_
              refine AR_fin (by kernel_rfl) ?_
              refine AE_seqN ?_
              refine AE_ret ?_
              refine AE_keep [4] (env' := [(4, (.bool v17))]) (by kernel_rfl) ?_
              simp only [Option.some.injEq] at h
              subst h
              exact AE_done ⟨trivial, by kernel_rfl, by kernel_rfl, by simp [AV.low, AV.lows, AObj.low], by simp [AV.low, AV.lows, AObj.low]⟩
            · replace h := bifF h7 h
              refine AW_reg ?_
              refine AR_many hT 5 [2, 3, 9] [(2, (.ptr 0 0)), (3, (.ptr 1 0)), (9, (.bool (v1 == v8)))] [.cells [(.int .i64 v1), (.str v2), (.str v3), (.sl (l57 v4)), (.sl (l69 v5)), (.sl (l69 v6)), (.int .i64 v7)], .cells [(.int .i64 v8), (.str v9), (.str v10), (.sl (l57 v11)), (.sl (l69 v12)), (.sl (l69 v13)), (.int .i64 v14)]] (by kernel_rfl) ?_
              refine AR_op (by kernel_rfl) (OpJ_boolK hT (q := (v1 == v8)) (by kernel_rfl) h1) ?_
              refine AR_many hT 6 [2, 3, 16] [(2, (.ptr 0 0)), (3, (.ptr 1 0)), (16, (.bool (v2.toList == v9.toList)))] [.cells [(.int .i64 v1), (.str v2), (.str v3), (.sl (l57 v4)), (.sl (l69 v5)), (.sl (l69 v6)), (.int .i64 v7)], .cells [(.int .i64 v8), (.str v9), (.str v10), (.sl (l57 v11)), (.sl (l69 v12)), (.sl (l69 v13)), (.int .i64 v14)]] (by kernel_rfl) ?_
              refine AR_op (by kernel_rfl) (OpJ_boolK hT (q := (v2.toList == v9.toList)) (by kernel_rfl) h2) ?_
              refine AR_many hT 6 [2, 3, 23] [(2, (.ptr 0 0)), (3, (.ptr 1 0)), (23, (.bool (v3.toList == v10.toList)))] [.cells [(.int .i64 v1), (.str v2), (.str v3), (.sl (l57 v4)), (.sl (l69 v5)), (.sl (l69 v6)), (.int .i64 v7)], .cells [(.int .i64 v8), (.str v9), (.str v10), (.sl (l57 v11)), (.sl (l69 v12)), (.sl (l69 v13)), (.int .i64 v14)]] (by kernel_rfl) ?_
              refine AR_op (by kernel_rfl) (OpJ_boolK hT (q := (v3.toList == v10.toList)) (by kernel_rfl) h3) ?_
              refine AR_many hT 4 [2, 3, 24, 26, 28] [(2, (.ptr 0 0)), (3, (.ptr 1 0)), (24, (.bool true)), (26, (.sl (l57 v4))), (28, (.sl (l57 v11)))] [.cells [(.int .i64 v1), (.str v2), (.str v3), (.sl (l57 v4)), (.sl (l69 v5)), (.sl (l69 v6)), (.int .i64 v7)], .cells [(.int .i64 v8), (.str v9), (.str v10), (.sl (l57 v11)), (.sl (l69 v12)), (.sl (l69 v13)), (.int .i64 v14)]] (by kernel_rfl) ?_
              refine AR_op (by kernel_rfl) (OpJ_callK (g := 84) (args := [(.sl (l57 v4)), (.sl (l57 v11)), (.fn 62 [] [])]) (by kernel_rfl) Go.Proofs.Try.func84 (by kernel_rfl) (by kernel_rfl) (Fn_pure (F84_ok k v4 v11 v15 h4) (by simp [AV.low, AV.lows, AObj.low]) (by simp [AV.low, AV.lows, AObj.low]))) ?_
              refine AR_many hT 1 [2, 3, 30] [(2, (.ptr 0 0)), (3, (.ptr 1 0)), (30, (.bool v15))] [.cells [(.int .i64 v1), (.str v2), (.str v3), (.sl (l57 v4)), (.sl (l69 v5)), (.sl (l69 v6)), (.int .i64 v7)], .cells [(.int .i64 v8), (.str v9), (.str v10), (.sl (l57 v11)), (.sl (l69 v12)), (.sl (l69 v13)), (.int .i64 v14)]] (by kernel_rfl) ?_
              refine AR_op (by kernel_rfl) (OpJ_boolK hT (q := v15) (by kernel_rfl) h5) ?_
              refine AR_many hT 4 [2, 3, 31, 33, 35] [(2, (.ptr 0 0)), (3, (.ptr 1 0)), (31, (.bool true)), (33, (.sl (l69 v5))), (35, (.sl (l69 v12)))] [.cells [(.int .i64 v1), (.str v2), (.str v3), (.sl (l57 v4)), (.sl (l69 v5)), (.sl (l69 v6)), (.int .i64 v7)], .cells [(.int .i64 v8), (.str v9), (.str v10), (.sl (l57 v11)), (.sl (l69 v12)), (.sl (l69 v13)), (.int .i64 v14)]] (by kernel_rfl) ?_
              refine AR_op (by kernel_rfl) (OpJ_callK (g := 46) (args := [(.sl (l69 v5)), (.sl (l69 v12)), (.fn 47 [] [])]) (by kernel_rfl) Go.Proofs.Try.func46 (by kernel_rfl) (by kernel_rfl) (Fn_pure (ih_F46 k hk v5 v12 v16 h6) (by simp [AV.low, AV.lows, AObj.low]) (by simp [AV.low, AV.lows, AObj.low]))) ?_
              refine AR_many hT 1 [2, 3, 37] [(2, (.ptr 0 0)), (3, (.ptr 1 0)), (37, (.bool v16))] [.cells [(.int .i64 v1), (.str v2), (.str v3), (.sl (l57 v4)), (.sl (l69 v5)), (.sl (l69 v6)), (.int .i64 v7)], .cells [(.int .i64 v8), (.str v9), (.str v10), (.sl (l57 v11)), (.sl (l69 v12)), (.sl (l69 v13)), (.int .i64 v14)]] (by kernel_rfl) ?_
              refine AR_op (by kernel_rfl) (OpJ_boolK hT (q := v16) (by kernel_rfl) h7) ?_
              refine AR_many hT 7 [4] [(4, (.bool false))] [.cells [(.int .i64 v1), (.str v2), (.str v3), (.sl (l57 v4)), (.sl (l69 v5)), (.sl (l69 v6)), (.int .i64 v7)], .cells [(.int .i64 v8), (.str v9), (.str v10), (.sl (l57 v11)), (.sl (l69 v12)), (.sl (l69 v13)), (.int .i64 v14)]] (by kernel_rfl) ?_
              refine AR_fin (by kernel_rfl) ?_
              refine AE_seqN ?_
              refine AE_ret ?_
              refine AE_keep [4] (env' := [(4, (.bool false))]) (by kernel_rfl) ?_
              simp only [Option.some.injEq] at h
              subst h
              exact AE_done ⟨trivial, by kernel_rfl, by kernel_rfl, by simp [AV.low, AV.lows, AObj.low], by simp [AV.low, AV.lows, AObj.low]⟩
          · replace h := bifF h5 h
            refine AW_reg ?_
            refine AR_many hT 5 [2, 3, 9] [(2, (.ptr 0 0)), (3, (.ptr 1 0)), (9, (.bool (v1 == v8)))] [.cells [(.int .i64 v1), (.str v2), (.str v3), (.sl (l57 v4)), (.sl (l69 v5)), (.sl (l69 v6)), (.int .i64 v7)], .cells [(.int .i64 v8), (.str v9), (.str v10), (.sl (l57 v11)), (.sl (l69 v12)), (.sl (l69 v13)), (.int .i64 v14)]] (by kernel_rfl) ?_
            refine AR_op (by kernel_rfl) (OpJ_boolK hT (q := (v1 == v8)) (by kernel_rfl) h1) ?_
            refine AR_many hT 6 [2, 3, 16] [(2, (.ptr 0 0)), (3, (.ptr 1 0)), (16, (.bool (v2.toList == v9.toList)))] [.cells [(.int .i64 v1), (.str v2), (.str v3), (.sl (l57 v4)), (.sl (l69 v5)), (.sl (l69 v6)), (.int .i64 v7)], .cells [(.int .i64 v8), (.str v9), (.str v10), (.sl (l57 v11)), (.sl (l69 v12)), (.sl (l69 v13)), (.int .i64 v14)]] (by kernel_rfl) ?_
            refine AR_op (by kernel_rfl) (OpJ_boolK hT (q := (v2.toList == v9.toList)) (by kernel_rfl) h2) ?_
            refine AR_many hT 6 [2, 3, 23] [(2, (.ptr 0 0)), (3, (.ptr 1 0)), (23, (.bool (v3.toList == v10.toList)))] [.cells [(.int .i64 v1), (.str v2), (.str v3), (.sl (l57 v4)), (.sl (l69 v5)), (.sl (l69 v6)), (.int .i64 v7)], .cells [(.int .i64 v8), (.str v9), (.str v10), (.sl (l57 v11)), (.sl (l69 v12)), (.sl (l69 v13)), (.int .i64 v14)]] (by kernel_rfl) ?_
            refine AR_op (by kernel_rfl) (OpJ_boolK hT (q := (v3.toList == v10.toList)) (by kernel_rfl) h3) ?_
            refine AR_many hT 4 [2, 3, 24, 26, 28] [(2, (.ptr 0 0)), (3, (.ptr 1 0)), (24, (.bool true)), (26, (.sl (l57 v4))), (28, (.sl (l57 v11)))] [.cells [(.int .i64 v1), (.str v2), (.str v3), (.sl (l57 v4)), (.sl (l69 v5)), (.sl (l69 v6)), (.int .i64 v7)], .cells [(.int .i64 v8), (.str v9), (.str v10), (.sl (l57 v11)), (.sl (l69 v12)), (.sl (l69 v13)), (.int .i64 v14)]] (by kernel_rfl) ?_
            refine AR_op (by kernel_rfl) (OpJ_callK (g := 84) (args := [(.sl (l57 v4)), (.sl (l57 v11)), (.fn 62 [] [])]) (by kernel_rfl) Go.Proofs.Try.func84 (by kernel_rfl) (by kernel_rfl) (Fn_pure (F84_ok k v4 v11 v15 h4) (by simp [AV.low, AV.lows, AObj.low]) (by simp [AV.low, AV.lows, AObj.low]))) ?_
            refine AR_many hT 1 [2, 3, 30] [(2, (.ptr 0 0)), (3, (.ptr 1 0)), (30, (.bool v15))] [.cells [(.int .i64 v1), (.str v2), (.str v3), (.sl (l57 v4)), (.sl (l69 v5)), (.sl (l69 v6)), (.int .i64 v7)], .cells [(.int .i64 v8), (.str v9), (.str v10), (.sl (l57 v11)), (.sl (l69 v12)), (.sl (l69 v13)), (.int .i64 v14)]] (by kernel_rfl) ?_
            refine AR_op (by kernel_rfl) (OpJ_boolK hT (q := v15) (by kernel_rfl) h5) ?_
            refine AR_many hT 14 [4] [(4, (.bool false))] [.cells [(.int .i64 v1), (.str v2), (.str v3), (.sl (l57 v4)), (.sl (l69 v5)), (.sl (l69 v6)), (.int .i64 v7)], .cells [(.int .i64 v8), (.str v9), (.str v10), (.sl (l57 v11)), (.sl (l69 v12)), (.sl (l69 v13)), (.int .i64 v14)]] (by kernel_rfl) ?_
            refine AR_fin (by kernel_rfl) ?_
            refine AE_seqN ?_
            refine AE_ret ?_
            refine AE_keep [4] (env' := [(4, (.bool false))]) (by kernel_rfl) ?_
            simp only [Option.some.injEq] at h
            subst h
            exact AE_done ⟨trivial, by kernel_rfl, by kernel_rfl, by simp [AV.low, AV.lows, AObj.low], by simp [AV.low, AV.lows, AObj.low]⟩
        · replace h := bifF h3 h
          refine AW_reg ?_
          refine AR_many hT 5 [2, 3, 9] [(2, (.ptr 0 0)), (3, (.ptr 1 0)), (9, (.bool (v1 == v8)))] [.cells [(.int .i64 v1), (.str v2), (.str v3), (.sl (l57 v4)), (.sl (l69 v5)), (.sl (l69 v6)), (.int .i64 v7)], .cells [(.int .i64 v8), (.str v9), (.str v10), (.sl (l57 v11)), (.sl (l69 v12)), (.sl (l69 v13)), (.int .i64 v14)]] (by kernel_rfl) ?_
          refine AR_op (by kernel_rfl) (OpJ_boolK hT (q := (v1 == v8)) (by kernel_rfl) h1) ?_
          refine AR_many hT 6 [2, 3, 16] [(2, (.ptr 0 0)), (3, (.ptr 1 0)), (16, (.bool (v2.toList == v9.toList)))] [.cells [(.int .i64 v1), (.str v2), (.str v3), (.sl (l57 v4)), (.sl (l69 v5)), (.sl (l69 v6)), (.int .i64 v7)], .cells [(.int .i64 v8), (.str v9), (.str v10), (.sl (l57 v11)), (.sl (l69 v12)), (.sl (l69 v13)), (.int .i64 v14)]] (by kernel_rfl) ?_
          refine AR_op (by kernel_rfl) (OpJ_boolK hT (q := (v2.toList == v9.toList)) (by kernel_rfl) h2) ?_
          refine AR_many hT 6 [2, 3, 23] [(2, (.ptr 0 0)), (3, (.ptr 1 0)), (23, (.bool (v3.toList == v10.toList)))] [.cells [(.int .i64 v1), (.str v2), (.str v3), (.sl (l57 v4)), (.sl (l69 v5)), (.sl (l69 v6)), (.int .i64 v7)], .cells [(.int .i64 v8), (.str v9), (.str v10), (.sl (l57 v11)), (.sl (l69 v12)), (.sl (l69 v13)), (.int .i64 v14)]] (by kernel_rfl) ?_
          refine AR_op (by kernel_rfl) (OpJ_boolK hT (q := (v3.toList == v10.toList)) (by kernel_rfl) h3) ?_
          refine AR_many hT 21 [4] [(4, (.bool false))] [.cells [(.int .i64 v1), (.str v2), (.str v3), (.sl (l57 v4)), (.sl (l69 v5)), (.sl (l69 v6)), (.int .i64 v7)], .cells [(.int .i64 v8), (.str v9), (.str v10), (.sl (l57 v11)), (.sl (l69 v12)), (.sl (l69 v13)), (.int .i64 v14)]] (by kernel_rfl) ?_
          refine AR_fin (by kernel_rfl) ?_
          refine AE_seqN ?_
          refine AE_ret ?_
          refine AE_keep [4] (env' := [(4, (.bool false))]) (by kernel_rfl) ?_
          simp only [Option.some.injEq] at h
          subst h
          exact AE_done ⟨trivial, by kernel_rfl, by kernel_rfl, by simp [AV.low, AV.lows, AObj.low], by simp [AV.low, AV.lows, AObj.low]⟩
      · replace h := bifF h2 h
        refine AW_reg ?_
        refine AR_many hT 5 [2, 3, 9] [(2, (.ptr 0 0)), (3, (.ptr 1 0)), (9, (.bool (v1 == v8)))] [.cells [(.int .i64 v1), (.str v2), (.str v3), (.sl (l57 v4)), (.sl (l69 v5)), (.sl (l69 v6)), (.int .i64 v7)], .cells [(.int .i64 v8), (.str v9), (.str v10), (.sl (l57 v11)), (.sl (l69 v12)), (.sl (l69 v13)), (.int .i64 v14)]] (by kernel_rfl) ?_
        refine AR_op (by kernel_rfl) (OpJ_boolK hT (q := (v1 == v8)) (by kernel_rfl) h1) ?_
        refine AR_many hT 6 [2, 3, 16] [(2, (.ptr 0 0)), (3, (.ptr 1 0)), (16, (.bool (v2.toList == v9.toList)))] [.cells [(.int .i64 v1), (.str v2), (.str v3), (.sl (l57 v4)), (.sl (l69 v5)), (.sl (l69 v6)), (.int .i64 v7)], .cells [(.int .i64 v8), (.str v9), (.str v10), (.sl (l57 v11)), (.sl (l69 v12)), (.sl (l69 v13)), (.int .i64 v14)]] (by kernel_rfl) ?_
        refine AR_op (by kernel_rfl) (OpJ_boolK hT (q := (v2.toList == v9.toList)) (by kernel_rfl) h2) ?_
        refine AR_many hT 28 [4] [(4, (.bool false))] [.cells [(.int .i64 v1), (.str v2), (.str v3), (.sl (l57 v4)), (.sl (l69 v5)), (.sl (l69 v6)), (.int .i64 v7)], .cells [(.int .i64 v8), (.str v9), (.str v10), (.sl (l57 v11)), (.sl (l69 v12)), (.sl (l69 v13)), (.int .i64 v14)]] (by kernel_rfl) ?_
        refine AR_fin (by kernel_rfl) ?_
        refine AE_seqN ?_
        refine AE_ret ?_
        refine AE_keep [4] (env' := [(4, (.bool false))]) (by kernel_rfl) ?_
        simp only [Option.some.injEq] at h
        subst h
        exact AE_done ⟨trivial, by kernel_rfl, by kernel_rfl, by simp [AV.low, AV.lows, AObj.low], by simp [AV.low, AV.lows, AObj.low]⟩
    · replace h := bifF h1 h
      refine AW_reg ?_
      refine AR_many hT 5 [2, 3, 9] [(2, (.ptr 0 0)), (3, (.ptr 1 0)), (9, (.bool (v1 == v8)))] [.cells [(.int .i64 v1), (.str v2), (.str v3), (.sl (l57 v4)), (.sl (l69 v5)), (.sl (l69 v6)), (.int .i64 v7)], .cells [(.int .i64 v8), (.str v9), (.str v10), (.sl (l57 v11)), (.sl (l69 v12)), (.sl (l69 v13)), (.int .i64 v14)]] (by kernel_rfl) ?_
      refine AR_op (by kernel_rfl) (OpJ_boolK hT (q := (v1 == v8)) (by kernel_rfl) h1) ?_
      refine AR_many hT 35 [4] [(4, (.bool false))] [.cells [(.int .i64 v1), (.str v2), (.str v3), (.sl (l57 v4)), (.sl (l69 v5)), (.sl (l69 v6)), (.int .i64 v7)], .cells [(.int .i64 v8), (.str v9), (.str v10), (.sl (l57 v11)), (.sl (l69 v12)), (.sl (l69 v13)), (.int .i64 v14)]] (by kernel_rfl) ?_
      refine AR_fin (by kernel_rfl) ?_
      refine AE_seqN ?_
      refine AE_ret ?_
      refine AE_keep [4] (env' := [(4, (.bool false))]) (by kernel_rfl) ?_
      simp only [Option.some.injEq] at h
      subst h
      exact AE_done ⟨trivial, by kernel_rfl, by kernel_rfl, by simp [AV.low, AV.lows, AObj.low], by simp [AV.low, AV.lows, AObj.low]⟩

theorem F46_step (K0 : Nat) (ih_F47 : ∀ k, k < K0 → ∀ (v1 : Int) (v2 : ByteArray) (v3 : ByteArray) (v4 : (List T57)) (v5 : (List T69)) (v6 : (List T69)) (v7 : Int) (v8 : Int) (v9 : ByteArray) (v10 : ByteArray) (v11 : (List T57)) (v12 : (List T69)) (v13 : (List T69)) (v14 : Int) (r1 : Bool), F47 k v1 v2 v3 v4 v5 v6 v7 v8 v9 v10 v11 v12 v13 v14 = some (r1) → Fn prog 47 [(.agg [(.int .i64 v1), (.str v2), (.str v3), (.sl (l57 v4)), (.sl (l69 v5)), (.sl (l69 v6)), (.int .i64 v7)]), (.agg [(.int .i64 v8), (.str v9), (.str v10), (.sl (l57 v11)), (.sl (l69 v12)), (.sl (l69 v13)), (.int .i64 v14)])] [] (.bool r1) []) (ih_F46 : ∀ k, k < K0 → ∀ (v1 : (List T69)) (v2 : (List T69)) (r1 : Bool), F46 k v1 v2 = some (r1) → Fn prog 46 [(.sl (l69 v1)), (.sl (l69 v2)), (.fn 47 [] [])] [] (.bool r1) []) : ∀ (v1 : (List T69)) (v2 : (List T69)) (r1 : Bool), F46 K0 v1 v2 = some (r1) → Fn prog 46 [(.sl (l69 v1)), (.sl (l69 v2)), (.fn 47 [] [])] [] (.bool r1) [] := by
  intro v1 v2 r1 h
  cases K0 with
  | zero => rw [F46] at h; cases h
  | succ k =>
    have hk : k < k + 1 := Nat.lt_succ_self k
    rw [F46] at h
    refine Fn_bodyK hT Go.Proofs.Try.func46 (c := Go.Proofs.Try.f46.body.getD .skip) (by kernel_rfl) (by kernel_rfl) (by kernel_rfl) ?_
    refine AW_seq ?_
    refine AW_reg ?_
    refine AR_many hT 1 [0, 1, 2] [(0, (.sl (l69 v1))), (1, (.sl (l69 v2))), (2, (.fn 47 [] []))] [] (by kernel_rfl) ?_
    refine AR_fin (by kernel_rfl) ?_
    refine AE_seqN ?_
    refine AW_seq ?_
    refine AW_seq ?_
    refine AW_reg ?_
    refine AR_many hT 5 [0, 1, 2, 14] [(0, (.sl (l69 v1))), (1, (.sl (l69 v2))), (2, (.fn 47 [] [])), (14, (.bool (((l69 v1).length : Int) != ((l69 v2).length : Int))))] [] (by kernel_rfl) ?_
    refine AR_fin (by kernel_rfl) ?_
    refine AE_seqN ?_
    rcases Bool.eq_false_or_eq_true (((l69 v1).length : Int) != ((l69 v2).length : Int)) with h1 | h1
    · replace h := bifT h1 h
      refine AW_ifT (q := (((l69 v1).length : Int) != ((l69 v2).length : Int))) (by kernel_rfl) h1 ?_
      refine AW_seq ?_
      refine AW_reg ?_
      refine AR_many hT 1 [6] [(6, (.bool false))] [] (by kernel_rfl) ?_
      refine AR_fin (by kernel_rfl) ?_
      refine AE_seqN ?_
      refine AE_ret ?_
      refine AE_seqR ?_
      refine AE_keep [6] (env' := [(6, (.bool false))]) (by kernel_rfl) ?_
      simp only [Option.some.injEq] at h
      subst h
      exact AE_done ⟨trivial, by kernel_rfl, by kernel_rfl, by simp [AV.low, AV.lows, AObj.low], by simp [AV.low, AV.lows, AObj.low]⟩
    · replace h := bifF h1 h
      refine AW_ifF (q := (((l69 v1).length : Int) != ((l69 v2).length : Int))) (by kernel_rfl) h1 ?_
      refine AE_skip ?_
      refine AE_seqN ?_
      refine AW_seq ?_
      refine AW_seq ?_
      refine AW_reg ?_
      refine AR_many hT 3 [1, 2, 15, 16, 17] [(1, (.sl (l69 v2))), (2, (.fn 47 [] [])), (15, (.sl (l69 v1))), (16, (.int .i64 ((l69 v1).length : Int))), (17, (.int .i64 0))] [] (by kernel_rfl) ?_
      refine AR_fin (by kernel_rfl) ?_
      refine AE_seqN ?_
      refine AW_block ?_
      refine AW_keep [1, 2, 15, 16, 17] (env' := [(1, (.sl (l69 v2))), (2, (.fn 47 [] [])), (15, (.sl (l69 v1))), (16, (.int .i64 ((l69 v1).length : Int))), (17, (.int .i64 0))]) (by kernel_rfl) ?_
      refine AW_loop (fun n env L => n ≤ k ∧ ∃ (v3 : Int), env = [(1, (.sl (l69 v2))), (2, (.fn 47 [] [])), (15, (.sl (l69 v1))), (16, (.int .i64 ((l69 v1).length : Int))), (17, (.int .i64 v3))] ∧ L = [] ∧ F46_l0 n v2 v1 v3 = some (r1)) k ⟨Nat.le_refl _, 0, rfl, rfl, h⟩ ?_
      rintro n _ _ ⟨hn, v3, rfl, rfl, h⟩
      cases n with
      | zero => rw [F46_l0] at h; cases h
      | succ k2 =>
        have h3 : k2 < (k + 1) := by omega
        rw [F46_l0] at h
        refine AW_seq ?_
        refine AW_reg ?_
        refine AR_many hT 1 [1, 2, 15, 16, 17, 18] [(1, (.sl (l69 v2))), (2, (.fn 47 [] [])), (15, (.sl (l69 v1))), (16, (.int .i64 ((l69 v1).length : Int))), (17, (.int .i64 v3)), (18, (.bool (decide (v3 < ((l69 v1).length : Int)))))] [] (by kernel_rfl) ?_
        refine AR_fin (by kernel_rfl) ?_
        refine AE_seqN ?_
        refine AW_seq ?_
        rcases Bool.eq_false_or_eq_true (decide (v3 < ((l69 v1).length : Int))) with h4 | h4
        · replace h := bifT h4 h
          refine AW_ifT (q := (decide (v3 < ((l69 v1).length : Int)))) (by kernel_rfl) h4 ?_
          refine AE_skip ?_
          refine AE_seqN ?_
          refine AW_seq ?_
          refine AW_block ?_
          refine AW_seq ?_
          obtain ⟨⟨v4, v5, v6, v7, v8, v9, v10⟩, h5, h⟩ := Option.bind_eq_some_iff.mp h
          try dsimp only at h
          refine AW_reg ?_
          refine AR_many hT 1 [1, 2, 15, 16, 17, 19] [(1, (.sl (l69 v2))), (2, (.fn 47 [] [])), (15, (.sl (l69 v1))), (16, (.int .i64 ((l69 v1).length : Int))), (17, (.int .i64 v3)), (19, (.int .i64 v3))] [] (by kernel_rfl) ?_
          refine AR_op (by kernel_rfl) (OpJ_indexK hT (xs := l69 v1) (j := v3) (n := 7) (by kernel_rfl) (i69 h5) (by kernel_rfl)) ?_
          refine AR_many hT 4 [1, 2, 7, 8, 15, 16, 17] [(1, (.sl (l69 v2))), (2, (.fn 47 [] [])), (7, (.int .i64 v3)), (8, (.ptr 0 0)), (15, (.sl (l69 v1))), (16, (.int .i64 ((l69 v1).length : Int))), (17, (.int .i64 v3))] [.cells [(.int .i64 v4), (.str v5), (.str v6), (.sl (l57 v7)), (.sl (l69 v8)), (.sl (l69 v9)), (.int .i64 v10)]] (by kernel_rfl) ?_
          refine AR_fin (by kernel_rfl) ?_
          refine AE_seqN ?_
          refine AW_seq ?_
          obtain ⟨⟨v11, v12, v13, v14, v15, v16, v17⟩, h6, h⟩ := Option.bind_eq_some_iff.mp h
          try dsimp only at h
          refine AW_reg ?_
          refine AR_many hT 2 [1, 2, 8, 15, 16, 17, 22, 23] [(1, (.sl (l69 v2))), (2, (.fn 47 [] [])), (8, (.ptr 0 0)), (15, (.sl (l69 v1))), (16, (.int .i64 ((l69 v1).length : Int))), (17, (.int .i64 v3)), (22, (.sl (l69 v2))), (23, (.int .i64 v3))] [.cells [(.int .i64 v4), (.str v5), (.str v6), (.sl (l57 v7)), (.sl (l69 v8)), (.sl (l69 v9)), (.int .i64 v10)]] (by kernel_rfl) ?_
          refine AR_op (by kernel_rfl) (OpJ_indexK hT (xs := l69 v2) (j := v3) (n := 7) (by kernel_rfl) (i69 h6) (by kernel_rfl)) ?_
          refine AR_many hT 3 [1, 2, 8, 9, 15, 16, 17] [(1, (.sl (l69 v2))), (2, (.fn 47 [] [])), (8, (.ptr 0 0)), (9, (.ptr 1 0)), (15, (.sl (l69 v1))), (16, (.int .i64 ((l69 v1).length : Int))), (17, (.int .i64 v3))] [.cells [(.int .i64 v4), (.str v5), (.str v6), (.sl (l57 v7)), (.sl (l69 v8)), (.sl (l69 v9)), (.int .i64 v10)], .cells [(.int .i64 v11), (.str v12), (.str v13), (.sl (l57 v14)), (.sl (l69 v15)), (.sl (l69 v16)), (.int .i64 v17)]] (by kernel_rfl) ?_
          refine AR_fin (by kernel_rfl) ?_
          refine AE_seqN ?_
          refine AW_seq ?_
          obtain ⟨v18, h7, h⟩ := Option.bind_eq_some_iff.mp h
          try dsimp only at h
          refine AW_reg ?_
          refine AR_many hT 3 [1, 2, 15, 16, 17, 26, 27, 28] [(1, (.sl (l69 v2))), (2, (.fn 47 [] [])), (15, (.sl (l69 v1))), (16, (.int .i64 ((l69 v1).length : Int))), (17, (.int .i64 v3)), (26, (.fn 47 [] [])), (27, (.agg [(.int .i64 v4), (.str v5), (.str v6), (.sl (l57 v7)), (.sl (l69 v8)), (.sl (l69 v9)), (.int .i64 v10)])), (28, (.agg [(.int .i64 v11), (.str v12), (.str v13), (.sl (l57 v14)), (.sl (l69 v15)), (.sl (l69 v16)), (.int .i64 v17)]))] [.cells [(.int .i64 v4), (.str v5), (.str v6), (.sl (l57 v7)), (.sl (l69 v8)), (.sl (l69 v9)), (.int .i64 v10)], .cells [(.int .i64 v11), (.str v12), (.str v13), (.sl (l57 v14)), (.sl (l69 v15)), (.sl (l69 v16)), (.int .i64 v17)]] (by kernel_rfl) ?_
          refine AR_op (by kernel_rfl) (OpJ_callK (g := 47) (args := [(.agg [(.int .i64 v4), (.str v5), (.str v6), (.sl (l57 v7)), (.sl (l69 v8)), (.sl (l69 v9)), (.int .i64 v10)]), (.agg [(.int .i64 v11), (.str v12), (.str v13), (.sl (l57 v14)), (.sl (l69 v15)), (.sl (l69 v16)), (.int .i64 v17)])]) (by kernel_rfl) Go.Proofs.Try.func47 (by kernel_rfl) (by kernel_rfl) (Fn_pure (ih_F47 k2 h3 v4 v5 v6 v7 v8 v9 v10 v11 v12 v13 v14 v15 v16 v17 v18 h7) (by simp [AV.low, AV.lows, AObj.low]) (by simp [AV.low, AV.lows, AObj.low]))) ?_
          refine AR_many hT 1 [1, 2, 15, 16, 17, 30] [(1, (.sl (l69 v2))), (2, (.fn 47 [] [])), (15, (.sl (l69 v1))), (16, (.int .i64 ((l69 v1).length : Int))), (17, (.int .i64 v3)), (30, (.bool (!v18)))] [.cells [(.int .i64 v4), (.str v5), (.str v6), (.sl (l57 v7)), (.sl (l69 v8)), (.sl (l69 v9)), (.int .i64 v10)], .cells [(.int .i64 v11), (.str v12), (.str v13), (.sl (l57 v14)), (.sl (l69 v15)), (.sl (l69 v16)), (.int .i64 v17)]] (by kernel_rfl) ?_
          refine AR_fin (by kernel_rfl) ?_
          refine AE_seqN ?_
          rcases Bool.eq_false_or_eq_true (!v18) with h8 | h8
          · replace h := bifT h8 h
            refine AW_ifT (q := (!v18)) (by kernel_rfl) h8 ?_
            refine AW_seq ?_
            refine AW_reg ?_
            refine AR_many hT 1 [6] [(6, (.bool false))] [.cells [(.int .i64 v4), (.str v5), (.str v6), (.sl (l57 v7)), (.sl (l69 v8)), (.sl (l69 v9)), (.int .i64 v10)], .cells [(.int .i64 v11), (.str v12), (.str v13), (.sl (l57 v14)), (.sl (l69 v15)), (.sl (l69 v16)), (.int .i64 v17)]] (by kernel_rfl) ?_
            refine AR_fin (by kernel_rfl) ?_
            refine AE_seqN ?_
            refine AE_ret ?_
            refine AE_blkR ?_
            refine AE_seqR ?_
            refine AE_seqR ?_
            refine AE_blkR ?_
            refine AE_seqR ?_
            refine AE_keep [6] (env' := [(6, (.bool false))]) (by kernel_rfl) ?_
            simp only [Option.some.injEq] at h
            subst h
            exact AE_done ⟨trivial, by kernel_rfl, by kernel_rfl, by simp [AV.low, AV.lows, AObj.low], by simp [AV.low, AV.lows, AObj.low]⟩
          · replace h := bifF h8 h
            refine AW_ifF (q := (!v18)) (by kernel_rfl) h8 ?_
            refine AE_skip ?_
            refine AE_blkN ?_
            refine AE_seqN ?_
            refine AW_reg ?_
            refine AR_many hT 2 [1, 2, 15, 16, 17] [(1, (.sl (l69 v2))), (2, (.fn 47 [] [])), (15, (.sl (l69 v1))), (16, (.int .i64 ((l69 v1).length : Int))), (17, (.int .i64 (IntKind.wrap .i64 (v3 + 1))))] [.cells [(.int .i64 v4), (.str v5), (.str v6), (.sl (l57 v7)), (.sl (l69 v8)), (.sl (l69 v9)), (.int .i64 v10)], .cells [(.int .i64 v11), (.str v12), (.str v13), (.sl (l57 v14)), (.sl (l69 v15)), (.sl (l69 v16)), (.int .i64 v17)]] (by kernel_rfl) ?_
            refine AR_fin (by kernel_rfl) ?_
            refine AE_keep [1, 2, 15, 16, 17] (env' := [(1, (.sl (l69 v2))), (2, (.fn 47 [] [])), (15, (.sl (l69 v1))), (16, (.int .i64 ((l69 v1).length : Int))), (17, (.int .i64 (IntKind.wrap .i64 (v3 + 1))))]) (by kernel_rfl) ?_
            refine AE_drop 0 (by kernel_rfl) (low_env (by simp [AV.low, AV.lows, AObj.low])) (by simp [AV.low, AV.lows, AObj.low]) (L' := []) (by kernel_rfl) ?_
            exact AE_done ⟨k2, by omega, by omega, (IntKind.wrap .i64 (v3 + 1)), rfl, rfl, h⟩
        · replace h := bifF h4 h
          refine AW_ifF (q := (decide (v3 < ((l69 v1).length : Int)))) (by kernel_rfl) h4 ?_
          refine AE_exit ?_
          refine AE_seqX ?_
          refine AE_seqX ?_
          refine AE_blkH ?_
          refine AE_seqN ?_
          refine AW_seq ?_
          refine AW_reg ?_
          refine AR_many hT 1 [6] [(6, (.bool true))] [] (by kernel_rfl) ?_
          refine AR_fin (by kernel_rfl) ?_
          refine AE_seqN ?_
          refine AE_ret ?_
          refine AE_keep [6] (env' := [(6, (.bool true))]) (by kernel_rfl) ?_
          simp only [Option.some.injEq] at h
          subst h
          exact AE_done ⟨trivial, by kernel_rfl, by kernel_rfl, by simp [AV.low, AV.lows, AObj.low], by simp [AV.low, AV.lows, AObj.low]⟩

theorem F47_all (K0 : Nat) : (∀ (v1 : Int) (v2 : ByteArray) (v3 : ByteArray) (v4 : (List T57)) (v5 : (List T69)) (v6 : (List T69)) (v7 : Int) (v8 : Int) (v9 : ByteArray) (v10 : ByteArray) (v11 : (List T57)) (v12 : (List T69)) (v13 : (List T69)) (v14 : Int) (r1 : Bool), F47 K0 v1 v2 v3 v4 v5 v6 v7 v8 v9 v10 v11 v12 v13 v14 = some (r1) → Fn prog 47 [(.agg [(.int .i64 v1), (.str v2), (.str v3), (.sl (l57 v4)), (.sl (l69 v5)), (.sl (l69 v6)), (.int .i64 v7)]), (.agg [(.int .i64 v8), (.str v9), (.str v10), (.sl (l57 v11)), (.sl (l69 v12)), (.sl (l69 v13)), (.int .i64 v14)])] [] (.bool r1) []) ∧ (∀ (v1 : (List T69)) (v2 : (List T69)) (r1 : Bool), F46 K0 v1 v2 = some (r1) → Fn prog 46 [(.sl (l69 v1)), (.sl (l69 v2)), (.fn 47 [] [])] [] (.bool r1) []) := by
  induction K0 using Nat.strongRecOn with
  | ind K0 ih => exact ⟨F47_step K0 (fun k hk => (ih k hk).1) (fun k hk => (ih k hk).2), F46_step K0 (fun k hk => (ih k hk).1) (fun k hk => (ih k hk).2)⟩

theorem F47_ok (K0 : Nat) : ∀ (v1 : Int) (v2 : ByteArray) (v3 : ByteArray) (v4 : (List T57)) (v5 : (List T69)) (v6 : (List T69)) (v7 : Int) (v8 : Int) (v9 : ByteArray) (v10 : ByteArray) (v11 : (List T57)) (v12 : (List T69)) (v13 : (List T69)) (v14 : Int) (r1 : Bool), F47 K0 v1 v2 v3 v4 v5 v6 v7 v8 v9 v10 v11 v12 v13 v14 = some (r1) → Fn prog 47 [(.agg [(.int .i64 v1), (.str v2), (.str v3), (.sl (l57 v4)), (.sl (l69 v5)), (.sl (l69 v6)), (.int .i64 v7)]), (.agg [(.int .i64 v8), (.str v9), (.str v10), (.sl (l57 v11)), (.sl (l69 v12)), (.sl (l69 v13)), (.int .i64 v14)])] [] (.bool r1) [] := (F47_all K0).1

theorem F46_ok (K0 : Nat) : ∀ (v1 : (List T69)) (v2 : (List T69)) (r1 : Bool), F46 K0 v1 v2 = some (r1) → Fn prog 46 [(.sl (l69 v1)), (.sl (l69 v2)), (.fn 47 [] [])] [] (.bool r1) [] := (F47_all K0).2

def F45 (k : Nat) (v1 : ByteArray) (v2 : (List T69)) (v3 : Int) (v4 : ByteArray) (v5 : (List T69)) (v6 : Int) : Option (Bool) :=
  (bif (v1.toList == v4.toList) then
    ((F46 k v2 v5).bind fun v7 =>
      some (v7))
  else
    some (false))

theorem F45_ok (k : Nat) : ∀ (v1 : ByteArray) (v2 : (List T69)) (v3 : Int) (v4 : ByteArray) (v5 : (List T69)) (v6 : Int) (r1 : Bool), F45 k v1 v2 v3 v4 v5 v6 = some (r1) → Fn prog 45 [(.agg [(.str v1), (.sl (l69 v2)), (.int .i64 v3)]), (.agg [(.str v4), (.sl (l69 v5)), (.int .i64 v6)])] [] (.bool r1) [] := by
  intro v1 v2 v3 v4 v5 v6 r1 h
  rw [F45] at h
  refine Fn_bodyK hT Go.Proofs.Try.func45 (c := Go.Proofs.Try.f45.body.getD .skip) (by kernel_rfl) (by kernel_rfl) (by kernel_rfl) ?_
  refine AW_seq ?_
  refine AW_reg ?_
  refine AR_many hT 3 [2, 3] [(2, (.ptr 0 0)), (3, (.ptr 1 0))] [.cells [(.str v1), (.sl (l69 v2)), (.int .i64 v3)], .cells [(.str v4), (.sl (l69 v5)), (.int .i64 v6)]] (by kernel_rfl) ?_
  refine AR_fin (by kernel_rfl) ?_
  refine AE_seqN ?_
  refine AW_seq ?_
  rcases Bool.eq_false_or_eq_true (v1.toList == v4.toList) with h1 | h1
  · replace h := bifT h1 h
    obtain ⟨v7, h2, h⟩ := Option.bind_eq_some_iff.mp h
    try dsimp only at h
    refine AW_reg ?_
    refine AR_many hT 5 [2, 3, 9] [(2, (.ptr 0 0)), (3, (.ptr 1 0)), (9, (.bool (v1.toList == v4.toList)))] [.cells [(.str v1), (.sl (l69 v2)), (.int .i64 v3)], .cells [(.str v4), (.sl (l69 v5)), (.int .i64 v6)]] (by kernel_rfl) ?_
    refine AR_op (by kernel_rfl) (OpJ_boolK hT (q := (v1.toList == v4.toList)) (by kernel_rfl) h1) ?_
    refine AR_many hT 4 [10, 12, 14] [(10, (.bool true)), (12, (.sl (l69 v2))), (14, (.sl (l69 v5)))] [.cells [(.str v1), (.sl (l69 v2)), (.int .i64 v3)], .cells [(.str v4), (.sl (l69 v5)), (.int .i64 v6)]] (by kernel_rfl) ?_
    refine AR_op (by kernel_rfl) (OpJ_callK (g := 46) (args := [(.sl (l69 v2)), (.sl (l69 v5)), (.fn 47 [] [])]) (by kernel_rfl) Go.Proofs.Try.func46 (by kernel_rfl) (by kernel_rfl) (Fn_pure (F46_ok k v2 v5 v7 h2) (by simp [AV.low, AV.lows, AObj.low]) (by simp [AV.low, AV.lows, AObj.low]))) ?_
    refine AR_many hT 2 [4] [(4, (.bool v7))] [.cells [(.str v1), (.sl (l69 v2)), (.int .i64 v3)], .cells [(.str v4), (.sl (l69 v5)), (.int .i64 v6)]] (by kernel_rfl) ?_
    refine AR_fin (by kernel_rfl) ?_
    refine AE_seqN ?_
    refine AE_ret ?_
    refine AE_keep [4] (env' := [(4, (.bool v7))]) (by kernel_rfl) ?_
    simp only [Option.some.injEq] at h
    subst h
    exact AE_done ⟨trivial, by kernel_rfl, by kernel_rfl, by simp [AV.low, AV.lows, AObj.low], by simp [AV.low, AV.lows, AObj.low]⟩
  · replace h := bifF h1 h
    refine AW_reg ?_
    refine AR_many hT 5 [2, 3, 9] [(2, (.ptr 0 0)), (3, (.ptr 1 0)), (9, (.bool (v1.toList == v4.toList)))] [.cells [(.str v1), (.sl (l69 v2)), (.int .i64 v3)], .cells [(.str v4), (.sl (l69 v5)), (.int .i64 v6)]] (by kernel_rfl) ?_
    refine AR_op (by kernel_rfl) (OpJ_boolK hT (q := (v1.toList == v4.toList)) (by kernel_rfl) h1) ?_
    refine AR_many hT 7 [4] [(4, (.bool false))] [.cells [(.str v1), (.sl (l69 v2)), (.int .i64 v3)], .cells [(.str v4), (.sl (l69 v5)), (.int .i64 v6)]] (by kernel_rfl) ?_
    refine AR_fin (by kernel_rfl) ?_
    refine AE_seqN ?_
    refine AE_ret ?_
    refine AE_keep [4] (env' := [(4, (.bool false))]) (by kernel_rfl) ?_
    simp only [Option.some.injEq] at h
    subst h
    exact AE_done ⟨trivial, by kernel_rfl, by kernel_rfl, by simp [AV.low, AV.lows, AObj.low], by simp [AV.low, AV.lows, AObj.low]⟩

def F44_l0 : Nat → (List T34) → (List T34) → Int → Option (Bool)
  | 0, _, _, _ => none
  | k2 + 1, v2, v1, v3 =>
    (bif (decide (v3 < ((l34 v1).length : Int))) then
      ((idx v1 v3).bind fun ⟨v4, v5, v6⟩ =>
        ((idx v2 v3).bind fun ⟨v7, v8, v9⟩ =>
          ((F45 k2 v4 v5 v6 v7 v8 v9).bind fun v10 =>
            (bif (!v10) then
              some (false)
            else
              F44_l0 k2 v2 v1 (IntKind.wrap .i64 (v3 + 1))))))
    else
      some (true))

def F44 (k : Nat) (v1 : (List T34)) (v2 : (List T34)) : Option (Bool) :=
  (bif (((l34 v1).length : Int) != ((l34 v2).length : Int)) then
    some (false)
  else
    F44_l0 k v2 v1 0)

theorem F44_ok (k : Nat) : ∀ (v1 : (List T34)) (v2 : (List T34)) (r1 : Bool), F44 k v1 v2 = some (r1) → Fn prog 44 [(.sl (l34 v1)), (.sl (l34 v2)), (.fn 45 [] [])] [] (.bool r1) [] := by
  intro v1 v2 r1 h
  rw [F44] at h
  refine Fn_bodyK hT Go.Proofs.Try.func44 (c := Go.Proofs.Try.f44.body.getD .skip) (by kernel_rfl) (by kernel_rfl) (by kernel_rfl) ?_
  refine AW_seq ?_
  refine AW_reg ?_
  refine AR_many hT 1 [0, 1, 2] [(0, (.sl (l34 v1))), (1, (.sl (l34 v2))), (2, (.fn 45 [] []))] [] (by kernel_rfl) ?_
  refine AR_fin (by kernel_rfl) ?_
  refine AE_seqN ?_
  refine AW_seq ?_
  refine AW_seq ?_
  refine AW_reg ?_
  refine AR_many hT 5 [0, 1, 2, 14] [(0, (.sl (l34 v1))), (1, (.sl (l34 v2))), (2, (.fn 45 [] [])), (14, (.bool (((l34 v1).length : Int) != ((l34 v2).length : Int))))] [] (by kernel_rfl) ?_
  refine AR_fin (by kernel_rfl) ?_
  refine AE_seqN ?_
  rcases Bool.eq_false_or_eq_true (((l34 v1).length : Int) != ((l34 v2).length : Int)) with h1 | h1
  · replace h := bifT h1 h
    refine AW_ifT (q := (((l34 v1).length : Int) != ((l34 v2).length : Int))) (by kernel_rfl) h1 ?_
    refine AW_seq ?_
    refine AW_reg ?_
    refine AR_many hT 1 [6] [(6, (.bool false))] [] (by kernel_rfl) ?_
    refine AR_fin (by kernel_rfl) ?_
    refine AE_seqN ?_
    refine AE_ret ?_
    refine AE_seqR ?_
    refine AE_keep [6] (env' := [(6, (.bool false))]) (by kernel_rfl) ?_
    simp only [Option.some.injEq] at h
    subst h
    exact AE_done ⟨trivial, by kernel_rfl, by kernel_rfl, by simp [AV.low, AV.lows, AObj.low], by simp [AV.low, AV.lows, AObj.low]⟩
  · replace h := bifF h1 h
    refine AW_ifF (q := (((l34 v1).length : Int) != ((l34 v2).length : Int))) (by kernel_rfl) h1 ?_
    refine AE_skip ?_
    refine AE_seqN ?_
    refine AW_seq ?_
    refine AW_seq ?_
    refine AW_reg ?_
    refine AR_many hT 3 [1, 2, 15, 16, 17] [(1, (.sl (l34 v2))), (2, (.fn 45 [] [])), (15, (.sl (l34 v1))), (16, (.int .i64 ((l34 v1).length : Int))), (17, (.int .i64 0))] [] (by kernel_rfl) ?_
    refine AR_fin (by kernel_rfl) ?_
    refine AE_seqN ?_
    refine AW_block ?_
    refine AW_keep [1, 2, 15, 16, 17] (env' := [(1, (.sl (l34 v2))), (2, (.fn 45 [] [])), (15, (.sl (l34 v1))), (16, (.int .i64 ((l34 v1).length : Int))), (17, (.int .i64 0))]) (by kernel_rfl) ?_
    refine AW_loop (fun n env L => n ≤ k ∧ ∃ (v3 : Int), env = [(1, (.sl (l34 v2))), (2, (.fn 45 [] [])), (15, (.sl (l34 v1))), (16, (.int .i64 ((l34 v1).length : Int))), (17, (.int .i64 v3))] ∧ L = [] ∧ F44_l0 n v2 v1 v3 = some (r1)) k ⟨Nat.le_refl _, 0, rfl, rfl, h⟩ ?_
    rintro n _ _ ⟨hn, v3, rfl, rfl, h⟩
    cases n with
    | zero => rw [F44_l0] at h; cases h
    | succ k2 =>
      rw [F44_l0] at h
      refine AW_seq ?_
      refine AW_reg ?_
      refine AR_many hT 1 [1, 2, 15, 16, 17, 18] [(1, (.sl (l34 v2))), (2, (.fn 45 [] [])), (15, (.sl (l34 v1))), (16, (.int .i64 ((l34 v1).length : Int))), (17, (.int .i64 v3)), (18, (.bool (decide (v3 < ((l34 v1).length : Int)))))] [] (by kernel_rfl) ?_
      refine AR_fin (by kernel_rfl) ?_
      refine AE_seqN ?_
      refine AW_seq ?_
      rcases Bool.eq_false_or_eq_true (decide (v3 < ((l34 v1).length : Int))) with h4 | h4
      · replace h := bifT h4 h
        refine AW_ifT (q := (decide (v3 < ((l34 v1).length : Int)))) (by kernel_rfl) h4 ?_
        refine AE_skip ?_
        refine AE_seqN ?_
        refine AW_seq ?_
        refine AW_block ?_
        refine AW_seq ?_
        obtain ⟨⟨v4, v5, v6⟩, h5, h⟩ := Option.bind_eq_some_iff.mp h
        try dsimp only at h
        refine AW_reg ?_
        refine AR_many hT 1 [1, 2, 15, 16, 17, 19] [(1, (.sl (l34 v2))), (2, (.fn 45 [] [])), (15, (.sl (l34 v1))), (16, (.int .i64 ((l34 v1).length : Int))), (17, (.int .i64 v3)), (19, (.int .i64 v3))] [] (by kernel_rfl) ?_
        refine AR_op (by kernel_rfl) (OpJ_indexK hT (xs := l34 v1) (j := v3) (n := 3) (by kernel_rfl) (i34 h5) (by kernel_rfl)) ?_
        refine AR_many hT 4 [1, 2, 7, 8, 15, 16, 17] [(1, (.sl (l34 v2))), (2, (.fn 45 [] [])), (7, (.int .i64 v3)), (8, (.ptr 0 0)), (15, (.sl (l34 v1))), (16, (.int .i64 ((l34 v1).length : Int))), (17, (.int .i64 v3))] [.cells [(.str v4), (.sl (l69 v5)), (.int .i64 v6)]] (by kernel_rfl) ?_
        refine AR_fin (by kernel_rfl) ?_
        refine AE_seqN ?_
        refine AW_seq ?_
        obtain ⟨⟨v7, v8, v9⟩, h6, h⟩ := Option.bind_eq_some_iff.mp h
        try dsimp only at h
        refine AW_reg ?_
        refine AR_many hT 2 [1, 2, 8, 15, 16, 17, 22, 23] [(1, (.sl (l34 v2))), (2, (.fn 45 [] [])), (8, (.ptr 0 0)), (15, (.sl (l34 v1))), (16, (.int .i64 ((l34 v1).length : Int))), (17, (.int .i64 v3)), (22, (.sl (l34 v2))), (23, (.int .i64 v3))] [.cells [(.str v4), (.sl (l69 v5)), (.int .i64 v6)]] (by kernel_rfl) ?_
        refine AR_op (by kernel_rfl) (OpJ_indexK hT (xs := l34 v2) (j := v3) (n := 3) (by kernel_rfl) (i34 h6) (by kernel_rfl)) ?_
        refine AR_many hT 3 [1, 2, 8, 9, 15, 16, 17] [(1, (.sl (l34 v2))), (2, (.fn 45 [] [])), (8, (.ptr 0 0)), (9, (.ptr 1 0)), (15, (.sl (l34 v1))), (16, (.int .i64 ((l34 v1).length : Int))), (17, (.int .i64 v3))] [.cells [(.str v4), (.sl (l69 v5)), (.int .i64 v6)], .cells [(.str v7), (.sl (l69 v8)), (.int .i64 v9)]] (by kernel_rfl) ?_
        refine AR_fin (by kernel_rfl) ?_
        refine AE_seqN ?_
        refine AW_seq ?_
        obtain ⟨v10, h7, h⟩ := Option.bind_eq_some_iff.mp h
        try dsimp only at h
        refine AW_reg ?_
        refine AR_many hT 3 [1, 2, 15, 16, 17, 26, 27, 28] [(1, (.sl (l34 v2))), (2, (.fn 45 [] [])), (15, (.sl (l34 v1))), (16, (.int .i64 ((l34 v1).length : Int))), (17, (.int .i64 v3)), (26, (.fn 45 [] [])), (27, (.agg [(.str v4), (.sl (l69 v5)), (.int .i64 v6)])), (28, (.agg [(.str v7), (.sl (l69 v8)), (.int .i64 v9)]))] [.cells [(.str v4), (.sl (l69 v5)), (.int .i64 v6)], .cells [(.str v7), (.sl (l69 v8)), (.int .i64 v9)]] (by kernel_rfl) ?_
        refine AR_op (by kernel_rfl) (OpJ_callK (g := 45) (args := [(.agg [(.str v4), (.sl (l69 v5)), (.int .i64 v6)]), (.agg [(.str v7), (.sl (l69 v8)), (.int .i64 v9)])]) (by kernel_rfl) Go.Proofs.Try.func45 (by kernel_rfl) (by kernel_rfl) (Fn_pure (F45_ok k2 v4 v5 v6 v7 v8 v9 v10 h7) (by simp [AV.low, AV.lows, AObj.low]) (by simp [AV.low, AV.lows, AObj.low]))) ?_
        refine AR_many hT 1 [1, 2, 15, 16, 17, 30] [(1, (.sl (l34 v2))), (2, (.fn 45 [] [])), (15, (.sl (l34 v1))), (16, (.int .i64 ((l34 v1).length : Int))), (17, (.int .i64 v3)), (30, (.bool (!v10)))] [.cells [(.str v4), (.sl (l69 v5)), (.int .i64 v6)], .cells [(.str v7), (.sl (l69 v8)), (.int .i64 v9)]] (by kernel_rfl) ?_
        refine AR_fin (by kernel_rfl) ?_
        refine AE_seqN ?_
        rcases Bool.eq_false_or_eq_true (!v10) with h8 | h8
        · replace h := bifT h8 h
          refine AW_ifT (q := (!v10)) (by kernel_rfl) h8 ?_
          refine AW_seq ?_
          refine AW_reg ?_
          refine AR_many hT 1 [6] [(6, (.bool false))] [.cells [(.str v4), (.sl (l69 v5)), (.int .i64 v6)], .cells [(.str v7), (.sl (l69 v8)), (.int .i64 v9)]] (by kernel_rfl) ?_
          refine AR_fin (by kernel_rfl) ?_
          refine AE_seqN ?_
          refine AE_ret ?_
          refine AE_blkR ?_
          refine AE_seqR ?_
          refine AE_seqR ?_
          refine AE_blkR ?_
          refine AE_seqR ?_
          refine AE_keep [6] (env' := [(6, (.bool false))]) (by kernel_rfl) ?_
          simp only [Option.some.injEq] at h
          subst h
          exact AE_done ⟨trivial, by kernel_rfl, by kernel_rfl, by simp [AV.low, AV.lows, AObj.low], by simp [AV.low, AV.lows, AObj.low]⟩
        · replace h := bifF h8 h
          refine AW_ifF (q := (!v10)) (by kernel_rfl) h8 ?_
          refine AE_skip ?_
          refine AE_blkN ?_
          refine AE_seqN ?_
          refine AW_reg ?_
          refine AR_many hT 2 [1, 2, 15, 16, 17] [(1, (.sl (l34 v2))), (2, (.fn 45 [] [])), (15, (.sl (l34 v1))), (16, (.int .i64 ((l34 v1).length : Int))), (17, (.int .i64 (IntKind.wrap .i64 (v3 + 1))))] [.cells [(.str v4), (.sl (l69 v5)), (.int .i64 v6)], .cells [(.str v7), (.sl (l69 v8)), (.int .i64 v9)]] (by kernel_rfl) ?_
          refine AR_fin (by kernel_rfl) ?_
          refine AE_keep [1, 2, 15, 16, 17] (env' := [(1, (.sl (l34 v2))), (2, (.fn 45 [] [])), (15, (.sl (l34 v1))), (16, (.int .i64 ((l34 v1).length : Int))), (17, (.int .i64 (IntKind.wrap .i64 (v3 + 1))))]) (by kernel_rfl) ?_
          refine AE_drop 0 (by kernel_rfl) (low_env (by simp [AV.low, AV.lows, AObj.low])) (by simp [AV.low, AV.lows, AObj.low]) (L' := []) (by kernel_rfl) ?_
          exact AE_done ⟨k2, by omega, by omega, (IntKind.wrap .i64 (v3 + 1)), rfl, rfl, h⟩
      · replace h := bifF h4 h
        refine AW_ifF (q := (decide (v3 < ((l34 v1).length : Int)))) (by kernel_rfl) h4 ?_
        refine AE_exit ?_
        refine AE_seqX ?_
        refine AE_seqX ?_
        refine AE_blkH ?_
        refine AE_seqN ?_
        refine AW_seq ?_
        refine AW_reg ?_
        refine AR_many hT 1 [6] [(6, (.bool true))] [] (by kernel_rfl) ?_
        refine AR_fin (by kernel_rfl) ?_
        refine AE_seqN ?_
        refine AE_ret ?_
        refine AE_keep [6] (env' := [(6, (.bool true))]) (by kernel_rfl) ?_
        simp only [Option.some.injEq] at h
        subst h
        exact AE_done ⟨trivial, by kernel_rfl, by kernel_rfl, by simp [AV.low, AV.lows, AObj.low], by simp [AV.low, AV.lows, AObj.low]⟩

def F19_j0 (k5 : Nat) (v2 : (List T76)) (v3 : (List T34)) (v5 : (List T76)) (v6 : (List T34)) (v7 : Bool) : Option (Bool) :=
  (bif v7 then
    some (false)
  else
    ((F42 k5 v2 v5).bind fun v10 =>
      (bif v10 then
        ((F44 k5 v3 v6).bind fun v11 =>
          some (v11))
      else
        some (false))))

def F19 (k : Nat) (v1 : Int) (v2 : (List T76)) (v3 : (List T34)) (v4 : Int) (v5 : (List T76)) (v6 : (List T34)) : Option (Bool) :=
  ((F14 k v1 v2 v3).bind fun v8 =>
    (bif (v8 != 0) then
      F19_j0 k v2 v3 v5 v6 true
    else
      ((F14 k v4 v5 v6).bind fun v9 =>
        (bif (v9 != 0) then
          F19_j0 k v2 v3 v5 v6 true
        else
          F19_j0 k v2 v3 v5 v6 (v1 != v4)))))

theorem F19_ok (k : Nat) : ∀ (v1 : Int) (v2 : (List T76)) (v3 : (List T34)) (v4 : Int) (v5 : (List T76)) (v6 : (List T34)) (r1 : Bool), F19 k v1 v2 v3 v4 v5 v6 = some (r1) → Fn prog 19 [(.agg [(.int .i64 v1), (.sl (l76 v2)), (.sl (l34 v3))]), (.agg [(.int .i64 v4), (.sl (l76 v5)), (.sl (l34 v6))])] [] (.bool r1) [] := by
  intro v1 v2 v3 v4 v5 v6 r1 h
  rw [F19] at h
  refine Fn_bodyK hT Go.Proofs.Try.func19 (c := Go.Proofs.Try.f19.body.getD .skip) (by kernel_rfl) (by kernel_rfl) (by kernel_rfl) ?_
  refine AW_seq ?_
  refine AW_reg ?_
  refine AR_many hT 3 [2, 3] [(2, (.ptr 0 0)), (3, (.ptr 1 0))] [.cells [(.int .i64 v1), (.sl (l76 v2)), (.sl (l34 v3))], .cells [(.int .i64 v4), (.sl (l76 v5)), (.sl (l34 v6))]] (by kernel_rfl) ?_
  refine AR_fin (by kernel_rfl) ?_
  refine AE_seqN ?_
  refine AW_seq ?_
  refine AW_join (fun env L => ∃ (v7 : Bool), env = [(2, (.ptr 0 0)), (3, (.ptr 1 0)), (19, (.bool v7))] ∧ L = [.cells [(.int .i64 v1), (.sl (l76 v2)), (.sl (l34 v3))], .cells [(.int .i64 v4), (.sl (l76 v5)), (.sl (l34 v6))]] ∧ ∃ n, n ≤ k ∧ F19_j0 n v2 v3 v5 v6 v7 = some (r1)) ?_ ?_
  · obtain ⟨v8, h1, h⟩ := Option.bind_eq_some_iff.mp h
    try dsimp only at h
    rcases Bool.eq_false_or_eq_true (v8 != 0) with h2 | h2
    · replace h := bifT h2 h
      refine AW_reg ?_
      refine AR_many hT 1 [2, 3, 5] [(2, (.ptr 0 0)), (3, (.ptr 1 0)), (5, (.agg [(.int .i64 v1), (.sl (l76 v2)), (.sl (l34 v3))]))] [.cells [(.int .i64 v1), (.sl (l76 v2)), (.sl (l34 v3))], .cells [(.int .i64 v4), (.sl (l76 v5)), (.sl (l34 v6))]] (by kernel_rfl) ?_
      refine AR_op (by kernel_rfl) (OpJ_callK (g := 14) (args := [(.agg [(.int .i64 v1), (.sl (l76 v2)), (.sl (l34 v3))])]) (by kernel_rfl) Go.Proofs.Try.func14 (by kernel_rfl) (by kernel_rfl) (Fn_pure (F14_ok k v1 v2 v3 v8 h1) (by simp [AV.low, AV.lows, AObj.low]) (by simp [AV.low, AV.lows, AObj.low]))) ?_
      refine AR_many hT 1 [2, 3, 7] [(2, (.ptr 0 0)), (3, (.ptr 1 0)), (7, (.bool (v8 != 0)))] [.cells [(.int .i64 v1), (.sl (l76 v2)), (.sl (l34 v3))], .cells [(.int .i64 v4), (.sl (l76 v5)), (.sl (l34 v6))]] (by kernel_rfl) ?_
      refine AR_op (by kernel_rfl) (OpJ_boolK hT (q := (v8 != 0)) (by kernel_rfl) h2) ?_
      refine AR_many hT 11 [2, 3, 19] [(2, (.ptr 0 0)), (3, (.ptr 1 0)), (19, (.bool true))] [.cells [(.int .i64 v1), (.sl (l76 v2)), (.sl (l34 v3))], .cells [(.int .i64 v4), (.sl (l76 v5)), (.sl (l34 v6))]] (by kernel_rfl) ?_
      refine AR_fin (by kernel_rfl) ?_
      refine AE_keep [2, 3, 19] (env' := [(2, (.ptr 0 0)), (3, (.ptr 1 0)), (19, (.bool true))]) (by kernel_rfl) ?_
      exact AE_done ⟨true, rfl, rfl, k, Nat.le_refl _, h⟩
    · replace h := bifF h2 h
      obtain ⟨v9, h3, h⟩ := Option.bind_eq_some_iff.mp h
      try dsimp only at h
      rcases Bool.eq_false_or_eq_true (v9 != 0) with h4 | h4
      · replace h := bifT h4 h
        refine AW_reg ?_
        refine AR_many hT 1 [2, 3, 5] [(2, (.ptr 0 0)), (3, (.ptr 1 0)), (5, (.agg [(.int .i64 v1), (.sl (l76 v2)), (.sl (l34 v3))]))] [.cells [(.int .i64 v1), (.sl (l76 v2)), (.sl (l34 v3))], .cells [(.int .i64 v4), (.sl (l76 v5)), (.sl (l34 v6))]] (by kernel_rfl) ?_
        refine AR_op (by kernel_rfl) (OpJ_callK (g := 14) (args := [(.agg [(.int .i64 v1), (.sl (l76 v2)), (.sl (l34 v3))])]) (by kernel_rfl) Go.Proofs.Try.func14 (by kernel_rfl) (by kernel_rfl) (Fn_pure (F14_ok k v1 v2 v3 v8 h1) (by simp [AV.low, AV.lows, AObj.low]) (by simp [AV.low, AV.lows, AObj.low]))) ?_
        refine AR_many hT 1 [2, 3, 7] [(2, (.ptr 0 0)), (3, (.ptr 1 0)), (7, (.bool (v8 != 0)))] [.cells [(.int .i64 v1), (.sl (l76 v2)), (.sl (l34 v3))], .cells [(.int .i64 v4), (.sl (l76 v5)), (.sl (l34 v6))]] (by kernel_rfl) ?_
        refine AR_op (by kernel_rfl) (OpJ_boolK hT (q := (v8 != 0)) (by kernel_rfl) h2) ?_
        refine AR_many hT 1 [2, 3, 8, 9] [(2, (.ptr 0 0)), (3, (.ptr 1 0)), (8, (.bool false)), (9, (.agg [(.int .i64 v4), (.sl (l76 v5)), (.sl (l34 v6))]))] [.cells [(.int .i64 v1), (.sl (l76 v2)), (.sl (l34 v3))], .cells [(.int .i64 v4), (.sl (l76 v5)), (.sl (l34 v6))]] (by kernel_rfl) ?_
        refine AR_op (by kernel_rfl) (OpJ_callK (g := 14) (args := [(.agg [(.int .i64 v4), (.sl (l76 v5)), (.sl (l34 v6))])]) (by kernel_rfl) Go.Proofs.Try.func14 (by kernel_rfl) (by kernel_rfl) (Fn_pure (F14_ok k v4 v5 v6 v9 h3) (by simp [AV.low, AV.lows, AObj.low]) (by simp [AV.low, AV.lows, AObj.low]))) ?_
        refine AR_many hT 2 [2, 3, 12] [(2, (.ptr 0 0)), (3, (.ptr 1 0)), (12, (.bool (v9 != 0)))] [.cells [(.int .i64 v1), (.sl (l76 v2)), (.sl (l34 v3))], .cells [(.int .i64 v4), (.sl (l76 v5)), (.sl (l34 v6))]] (by kernel_rfl) ?_
        refine AR_op (by kernel_rfl) (OpJ_boolK hT (q := (v9 != 0)) (by kernel_rfl) h4) ?_
        refine AR_many hT 6 [2, 3, 19] [(2, (.ptr 0 0)), (3, (.ptr 1 0)), (19, (.bool true))] [.cells [(.int .i64 v1), (.sl (l76 v2)), (.sl (l34 v3))], .cells [(.int .i64 v4), (.sl (l76 v5)), (.sl (l34 v6))]] (by kernel_rfl) ?_
        refine AR_fin (by kernel_rfl) ?_
        refine AE_keep [2, 3, 19] (env' := [(2, (.ptr 0 0)), (3, (.ptr 1 0)), (19, (.bool true))]) (by kernel_rfl) ?_
        exact AE_done ⟨true, rfl, rfl, k, Nat.le_refl _, h⟩
      · replace h := bifF h4 h
        refine AW_reg ?_
        refine AR_many hT 1 [2, 3, 5] [(2, (.ptr 0 0)), (3, (.ptr 1 0)), (5, (.agg [(.int .i64 v1), (.sl (l76 v2)), (.sl (l34 v3))]))] [.cells [(.int .i64 v1), (.sl (l76 v2)), (.sl (l34 v3))], .cells [(.int .i64 v4), (.sl (l76 v5)), (.sl (l34 v6))]] (by kernel_rfl) ?_
        refine AR_op (by kernel_rfl) (OpJ_callK (g := 14) (args := [(.agg [(.int .i64 v1), (.sl (l76 v2)), (.sl (l34 v3))])]) (by kernel_rfl) Go.Proofs.Try.func14 (by kernel_rfl) (by kernel_rfl) (Fn_pure (F14_ok k v1 v2 v3 v8 h1) (by simp [AV.low, AV.lows, AObj.low]) (by simp [AV.low, AV.lows, AObj.low]))) ?_
        refine AR_many hT 1 [2, 3, 7] [(2, (.ptr 0 0)), (3, (.ptr 1 0)), (7, (.bool (v8 != 0)))] [.cells [(.int .i64 v1), (.sl (l76 v2)), (.sl (l34 v3))], .cells [(.int .i64 v4), (.sl (l76 v5)), (.sl (l34 v6))]] (by kernel_rfl) ?_
        refine AR_op (by kernel_rfl) (OpJ_boolK hT (q := (v8 != 0)) (by kernel_rfl) h2) ?_
        refine AR_many hT 1 [2, 3, 8, 9] [(2, (.ptr 0 0)), (3, (.ptr 1 0)), (8, (.bool false)), (9, (.agg [(.int .i64 v4), (.sl (l76 v5)), (.sl (l34 v6))]))] [.cells [(.int .i64 v1), (.sl (l76 v2)), (.sl (l34 v3))], .cells [(.int .i64 v4), (.sl (l76 v5)), (.sl (l34 v6))]] (by kernel_rfl) ?_
        refine AR_op (by kernel_rfl) (OpJ_callK (g := 14) (args := [(.agg [(.int .i64 v4), (.sl (l76 v5)), (.sl (l34 v6))])]) (by kernel_rfl) Go.Proofs.Try.func14 (by kernel_rfl) (by kernel_rfl) (Fn_pure (F14_ok k v4 v5 v6 v9 h3) (by simp [AV.low, AV.lows, AObj.low]) (by simp [AV.low, AV.lows, AObj.low]))) ?_
        refine AR_many hT 2 [2, 3, 12] [(2, (.ptr 0 0)), (3, (.ptr 1 0)), (12, (.bool (v9 != 0)))] [.cells [(.int .i64 v1), (.sl (l76 v2)), (.sl (l34 v3))], .cells [(.int .i64 v4), (.sl (l76 v5)), (.sl (l34 v6))]] (by kernel_rfl) ?_
        refine AR_op (by kernel_rfl) (OpJ_boolK hT (q := (v9 != 0)) (by kernel_rfl) h4) ?_
        refine AR_many hT 6 [2, 3, 19] [(2, (.ptr 0 0)), (3, (.ptr 1 0)), (19, (.bool (v1 != v4)))] [.cells [(.int .i64 v1), (.sl (l76 v2)), (.sl (l34 v3))], .cells [(.int .i64 v4), (.sl (l76 v5)), (.sl (l34 v6))]] (by kernel_rfl) ?_
        refine AR_fin (by kernel_rfl) ?_
        refine AE_keep [2, 3, 19] (env' := [(2, (.ptr 0 0)), (3, (.ptr 1 0)), (19, (.bool (v1 != v4)))]) (by kernel_rfl) ?_
        exact AE_done ⟨(v1 != v4), rfl, rfl, k, Nat.le_refl _, h⟩
  · rintro _ _ ⟨v7, rfl, rfl, n, hn, h⟩
    obtain ⟨k5, rfl⟩ : ∃ q, q = n := ⟨n, rfl⟩
    rw [F19_j0] at h
    rcases Bool.eq_false_or_eq_true v7 with h7 | h7
    · replace h := bifT h7 h
      refine AW_ifT (q := v7) (by kernel_rfl) h7 ?_
      refine AW_seq ?_
      refine AW_reg ?_
      refine AR_many hT 1 [4] [(4, (.bool false))] [.cells [(.int .i64 v1), (.sl (l76 v2)), (.sl (l34 v3))], .cells [(.int .i64 v4), (.sl (l76 v5)), (.sl (l34 v6))]] (by kernel_rfl) ?_
      refine AR_fin (by kernel_rfl) ?_
      refine AE_seqN ?_
      refine AE_ret ?_
      refine AE_seqR ?_
      refine AE_keep [4] (env' := [(4, (.bool false))]) (by kernel_rfl) ?_
      simp only [Option.some.injEq] at h
      subst h
      exact AE_done ⟨trivial, by kernel_rfl, by kernel_rfl, by simp [AV.low, AV.lows, AObj.low], by simp [AV.low, AV.lows, AObj.low]⟩
    · replace h := bifF h7 h
      refine AW_ifF (q := v7) (by kernel_rfl) h7 ?_
      refine AE_skip ?_
      refine AE_seqN ?_
      refine AW_seq ?_
      obtain ⟨v10, h8, h⟩ := Option.bind_eq_some_iff.mp h
      try dsimp only at h
      rcases Bool.eq_false_or_eq_true v10 with h9 | h9
      · replace h := bifT h9 h
        obtain ⟨v11, h10, h⟩ := Option.bind_eq_some_iff.mp h
        try dsimp only at h
        refine AW_reg ?_
        refine AR_many hT 4 [2, 3, 21, 23] [(2, (.ptr 0 0)), (3, (.ptr 1 0)), (21, (.sl (l76 v2))), (23, (.sl (l76 v5)))] [.cells [(.int .i64 v1), (.sl (l76 v2)), (.sl (l34 v3))], .cells [(.int .i64 v4), (.sl (l76 v5)), (.sl (l34 v6))]] (by kernel_rfl) ?_
        refine AR_op (by kernel_rfl) (OpJ_callK (g := 42) (args := [(.sl (l76 v2)), (.sl (l76 v5)), (.fn 43 [] [])]) (by kernel_rfl) Go.Proofs.Try.func42 (by kernel_rfl) (by kernel_rfl) (Fn_pure (F42_ok k5 v2 v5 v10 h8) (by simp [AV.low, AV.lows, AObj.low]) (by simp [AV.low, AV.lows, AObj.low]))) ?_
        refine AR_op (by kernel_rfl) (OpJ_boolK hT (q := v10) (by kernel_rfl) h9) ?_
        refine AR_many hT 4 [25, 27, 29] [(25, (.bool true)), (27, (.sl (l34 v3))), (29, (.sl (l34 v6)))] [.cells [(.int .i64 v1), (.sl (l76 v2)), (.sl (l34 v3))], .cells [(.int .i64 v4), (.sl (l76 v5)), (.sl (l34 v6))]] (by kernel_rfl) ?_
        refine AR_op (by kernel_rfl) (OpJ_callK (g := 44) (args := [(.sl (l34 v3)), (.sl (l34 v6)), (.fn 45 [] [])]) (by kernel_rfl) Go.Proofs.Try.func44 (by kernel_rfl) (by kernel_rfl) (Fn_pure (F44_ok k5 v3 v6 v11 h10) (by simp [AV.low, AV.lows, AObj.low]) (by simp [AV.low, AV.lows, AObj.low]))) ?_
        refine AR_many hT 2 [4] [(4, (.bool v11))] [.cells [(.int .i64 v1), (.sl (l76 v2)), (.sl (l34 v3))], .cells [(.int .i64 v4), (.sl (l76 v5)), (.sl (l34 v6))]] (by kernel_rfl) ?_
        refine AR_fin (by kernel_rfl) ?_
        refine AE_seqN ?_
        refine AE_ret ?_
        refine AE_keep [4] (env' := [(4, (.bool v11))]) (by kernel_rfl) ?_
        simp only [Option.some.injEq] at h
        subst h
        exact AE_done ⟨trivial, by kernel_rfl, by kernel_rfl, by simp [AV.low, AV.lows, AObj.low], by simp [AV.low, AV.lows, AObj.low]⟩
      · replace h := bifF h9 h
        refine AW_reg ?_
        refine AR_many hT 4 [2, 3, 21, 23] [(2, (.ptr 0 0)), (3, (.ptr 1 0)), (21, (.sl (l76 v2))), (23, (.sl (l76 v5)))] [.cells [(.int .i64 v1), (.sl (l76 v2)), (.sl (l34 v3))], .cells [(.int .i64 v4), (.sl (l76 v5)), (.sl (l34 v6))]] (by kernel_rfl) ?_
        refine AR_op (by kernel_rfl) (OpJ_callK (g := 42) (args := [(.sl (l76 v2)), (.sl (l76 v5)), (.fn 43 [] [])]) (by kernel_rfl) Go.Proofs.Try.func42 (by kernel_rfl) (by kernel_rfl) (Fn_pure (F42_ok k5 v2 v5 v10 h8) (by simp [AV.low, AV.lows, AObj.low]) (by simp [AV.low, AV.lows, AObj.low]))) ?_
        refine AR_op (by kernel_rfl) (OpJ_boolK hT (q := v10) (by kernel_rfl) h9) ?_
        refine AR_many hT 7 [4] [(4, (.bool false))] [.cells [(.int .i64 v1), (.sl (l76 v2)), (.sl (l34 v3))], .cells [(.int .i64 v4), (.sl (l76 v5)), (.sl (l34 v6))]] (by kernel_rfl) ?_
        refine AR_fin (by kernel_rfl) ?_
        refine AE_seqN ?_
        refine AE_ret ?_
        refine AE_keep [4] (env' := [(4, (.bool false))]) (by kernel_rfl) ?_
        simp only [Option.some.injEq] at h
        subst h
        exact AE_done ⟨trivial, by kernel_rfl, by kernel_rfl, by simp [AV.low, AV.lows, AObj.low], by simp [AV.low, AV.lows, AObj.low]⟩

def F11 (k : Nat) : Option (Bool) :=
  ((F14 k 0 [] []).bind fun v1 =>
    (bif (v1 == 1) then
      ((F14 k 0 [] [(T34.mk (ByteArray.mk #[97]) [(T69.mk 11 (ByteArray.mk #[98]) (ByteArray.mk #[]) [] [] [] 0)] 0)]).bind fun v2 =>
        (bif (v2 == 0) then
          ((F19 k 0 [] [(T34.mk (ByteArray.mk #[97]) [(T69.mk 11 (ByteArray.mk #[98]) (ByteArray.mk #[]) [] [] [] 0)] 0)] 0 [] [(T34.mk (ByteArray.mk #[97]) [(T69.mk 11 (ByteArray.mk #[98]) (ByteArray.mk #[]) [] [] [] 0)] 0)]).bind fun v3 =>
            (bif v3 then
              ((idx [(T34.mk (ByteArray.mk #[97]) [(T69.mk 11 (ByteArray.mk #[98]) (ByteArray.mk #[]) [] [] [] 0)] 0)] 0).bind fun ⟨v4, v5, v6⟩ =>
                ((F15 k v5).bind fun v7 =>
                  some ((v7 == 1))))
            else
              some (false)))
        else
          some (false)))
    else
      some (false)))

theorem F11_ok (k : Nat) : ∀  (r1 : Bool), F11 k = some (r1) → Fn prog 11 [] [] (.bool r1) [] := by
  intro r1 h
  rw [F11] at h
  refine Fn_bodyK hT Go.Proofs.Try.func11 (c := Go.Proofs.Try.f11.body.getD .skip) (by kernel_rfl) (by kernel_rfl) (by kernel_rfl) ?_
  refine AW_seq ?_
  refine AW_reg ?_
  refine AR_many hT 1 [] [] [] (by kernel_rfl) ?_
  refine AR_fin (by kernel_rfl) ?_
  refine AE_seqN ?_
  refine AW_seq ?_
  refine AW_reg ?_
  refine AR_many hT 1 [2] [(2, (.agg [(.int .i64 11), (.str (ByteArray.mk #[98])), (.str (ByteArray.mk #[])), .nil, .nil, .nil, (.int .i64 0)]))] [] (by kernel_rfl) ?_
  refine AR_op (by kernel_rfl) (OpJ_after (OpJ_builtK hT (e := 70) (k := 7) (xs := [(.agg [(.int .i64 11), (.str (ByteArray.mk #[98])), (.str (ByteArray.mk #[])), .nil, .nil, .nil, (.int .i64 0)])]) 0 (by kernel_rfl) (by kernel_rfl) (by simp [AV.low, AV.lows, AObj.low]) (by simp [AV.low, AV.lows, AObj.low])) (v' := .sl (l69 [(T69.mk 11 (ByteArray.mk #[98]) (ByteArray.mk #[]) [] [] [] 0)])) (Weak.sls 7 ⟨Weak.refl, Weak.refl, Weak.refl, Weak.nil, Weak.nil, Weak.nil, Weak.refl, trivial⟩ (by kernel_rfl) (by kernel_rfl) (by kernel_rfl))) ?_
  refine AR_many hT 1 [4] [(4, (.agg [(.str (ByteArray.mk #[97])), (.sl (l69 [(T69.mk 11 (ByteArray.mk #[98]) (ByteArray.mk #[]) [] [] [] 0)])), (.int .i64 0)]))] [] (by kernel_rfl) ?_
  refine AR_op (by kernel_rfl) (OpJ_builtK hT (e := 35) (k := 3) (xs := [(.agg [(.str (ByteArray.mk #[97])), (.sl (l69 [(T69.mk 11 (ByteArray.mk #[98]) (ByteArray.mk #[]) [] [] [] 0)])), (.int .i64 0)])]) 0 (by kernel_rfl) (by kernel_rfl) (by simp [AV.low, AV.lows, AObj.low]) (by simp [AV.low, AV.lows, AObj.low])) ?_
  refine AR_many hT 3 [1] [(1, (.ptr 0 0))] [.cells [(.int .i64 0), .nil, (.sl (l34 [(T34.mk (ByteArray.mk #[97]) [(T69.mk 11 (ByteArray.mk #[98]) (ByteArray.mk #[]) [] [] [] 0)] 0)]))]] (by kernel_rfl) ?_
  refine AR_fin (by kernel_rfl) ?_
  refine AE_seqN ?_
  refine AW_seq ?_
  obtain ⟨v1, h1, h⟩ := Option.bind_eq_some_iff.mp h
  try dsimp only at h
  rcases Bool.eq_false_or_eq_true (v1 == 1) with h2 | h2
  · replace h := bifT h2 h
    obtain ⟨v2, h3, h⟩ := Option.bind_eq_some_iff.mp h
    try dsimp only at h
    rcases Bool.eq_false_or_eq_true (v2 == 0) with h4 | h4
    · replace h := bifT h4 h
      obtain ⟨v3, h5, h⟩ := Option.bind_eq_some_iff.mp h
      try dsimp only at h
      rcases Bool.eq_false_or_eq_true v3 with h6 | h6
      · replace h := bifT h6 h
        obtain ⟨⟨v4, v5, v6⟩, h7, h⟩ := Option.bind_eq_some_iff.mp h
        try dsimp only at h
        obtain ⟨v7, h8, h⟩ := Option.bind_eq_some_iff.mp h
        try dsimp only at h
        refine AW_reg ?_
        refine AR_many hT 1 [1, 7] [(1, (.ptr 0 0)), (7, (.agg [(.int .i64 0), .nil, .nil]))] [.cells [(.int .i64 0), .nil, (.sl (l34 [(T34.mk (ByteArray.mk #[97]) [(T69.mk 11 (ByteArray.mk #[98]) (ByteArray.mk #[]) [] [] [] 0)] 0)]))]] (by kernel_rfl) ?_
        refine AR_op (by kernel_rfl) (OpJ_callK (g := 14) (args := [(.agg [(.int .i64 0), .nil, .nil])]) (by kernel_rfl) Go.Proofs.Try.func14 (by kernel_rfl) (by kernel_rfl) (Fn_args (args := [(.agg [(.int .i64 0), .nil, .nil])]) (args' := [(.agg [(.int .i64 0), (.sl (l76 [])), (.sl (l34 []))])]) (Fn_pure (F14_ok k 0 [] [] v1 h1) (by simp [AV.low, AV.lows, AObj.low]) (by simp [AV.low, AV.lows, AObj.low])) ⟨(Weak.aggs ⟨Weak.refl, Weak.nil, Weak.nil, trivial⟩ (by kernel_rfl)), trivial⟩)) ?_
        refine AR_many hT 1 [1, 9] [(1, (.ptr 0 0)), (9, (.bool (v1 == 1)))] [.cells [(.int .i64 0), .nil, (.sl (l34 [(T34.mk (ByteArray.mk #[97]) [(T69.mk 11 (ByteArray.mk #[98]) (ByteArray.mk #[]) [] [] [] 0)] 0)]))]] (by kernel_rfl) ?_
        refine AR_op (by kernel_rfl) (OpJ_boolK hT (q := (v1 == 1)) (by kernel_rfl) h2) ?_
        refine AR_many hT 1 [1, 10, 11] [(1, (.ptr 0 0)), (10, (.bool true)), (11, (.agg [(.int .i64 0), .nil, (.sl (l34 [(T34.mk (ByteArray.mk #[97]) [(T69.mk 11 (ByteArray.mk #[98]) (ByteArray.mk #[]) [] [] [] 0)] 0)]))]))] [.cells [(.int .i64 0), .nil, (.sl (l34 [(T34.mk (ByteArray.mk #[97]) [(T69.mk 11 (ByteArray.mk #[98]) (ByteArray.mk #[]) [] [] [] 0)] 0)]))]] (by kernel_rfl) ?_
        refine AR_op (by kernel_rfl) (OpJ_callK (g := 14) (args := [(.agg [(.int .i64 0), .nil, (.sl (l34 [(T34.mk (ByteArray.mk #[97]) [(T69.mk 11 (ByteArray.mk #[98]) (ByteArray.mk #[]) [] [] [] 0)] 0)]))])]) (by kernel_rfl) Go.Proofs.Try.func14 (by kernel_rfl) (by kernel_rfl) (Fn_args (args := [(.agg [(.int .i64 0), .nil, (.sl (l34 [(T34.mk (ByteArray.mk #[97]) [(T69.mk 11 (ByteArray.mk #[98]) (ByteArray.mk #[]) [] [] [] 0)] 0)]))])]) (args' := [(.agg [(.int .i64 0), (.sl (l76 [])), (.sl (l34 [(T34.mk (ByteArray.mk #[97]) [(T69.mk 11 (ByteArray.mk #[98]) (ByteArray.mk #[]) [] [] [] 0)] 0)]))])]) (Fn_pure (F14_ok k 0 [] [(T34.mk (ByteArray.mk #[97]) [(T69.mk 11 (ByteArray.mk #[98]) (ByteArray.mk #[]) [] [] [] 0)] 0)] v2 h3) (by simp [AV.low, AV.lows, AObj.low]) (by simp [AV.low, AV.lows, AObj.low])) ⟨(Weak.aggs ⟨Weak.refl, Weak.nil, Weak.refl, trivial⟩ (by kernel_rfl)), trivial⟩)) ?_
        refine AR_many hT 2 [1, 14] [(1, (.ptr 0 0)), (14, (.bool (v2 == 0)))] [.cells [(.int .i64 0), .nil, (.sl (l34 [(T34.mk (ByteArray.mk #[97]) [(T69.mk 11 (ByteArray.mk #[98]) (ByteArray.mk #[]) [] [] [] 0)] 0)]))]] (by kernel_rfl) ?_
        refine AR_op (by kernel_rfl) (OpJ_boolK hT (q := (v2 == 0)) (by kernel_rfl) h4) ?_
        refine AR_many hT 2 [1, 15, 16, 17] [(1, (.ptr 0 0)), (15, (.bool true)), (16, (.agg [(.int .i64 0), .nil, (.sl (l34 [(T34.mk (ByteArray.mk #[97]) [(T69.mk 11 (ByteArray.mk #[98]) (ByteArray.mk #[]) [] [] [] 0)] 0)]))])), (17, (.agg [(.int .i64 0), .nil, (.sl (l34 [(T34.mk (ByteArray.mk #[97]) [(T69.mk 11 (ByteArray.mk #[98]) (ByteArray.mk #[]) [] [] [] 0)] 0)]))]))] [.cells [(.int .i64 0), .nil, (.sl (l34 [(T34.mk (ByteArray.mk #[97]) [(T69.mk 11 (ByteArray.mk #[98]) (ByteArray.mk #[]) [] [] [] 0)] 0)]))]] (by kernel_rfl) ?_
        refine AR_op (by kernel_rfl) (OpJ_callK (g := 19) (args := [(.agg [(.int .i64 0), .nil, (.sl (l34 [(T34.mk (ByteArray.mk #[97]) [(T69.mk 11 (ByteArray.mk #[98]) (ByteArray.mk #[]) [] [] [] 0)] 0)]))]), (.agg [(.int .i64 0), .nil, (.sl (l34 [(T34.mk (ByteArray.mk #[97]) [(T69.mk 11 (ByteArray.mk #[98]) (ByteArray.mk #[]) [] [] [] 0)] 0)]))])]) (by kernel_rfl) Go.Proofs.Try.func19 (by kernel_rfl) (by kernel_rfl) (Fn_args (args := [(.agg [(.int .i64 0), .nil, (.sl (l34 [(T34.mk (ByteArray.mk #[97]) [(T69.mk 11 (ByteArray.mk #[98]) (ByteArray.mk #[]) [] [] [] 0)] 0)]))]), (.agg [(.int .i64 0), .nil, (.sl (l34 [(T34.mk (ByteArray.mk #[97]) [(T69.mk 11 (ByteArray.mk #[98]) (ByteArray.mk #[]) [] [] [] 0)] 0)]))])]) (args' := [(.agg [(.int .i64 0), (.sl (l76 [])), (.sl (l34 [(T34.mk (ByteArray.mk #[97]) [(T69.mk 11 (ByteArray.mk #[98]) (ByteArray.mk #[]) [] [] [] 0)] 0)]))]), (.agg [(.int .i64 0), (.sl (l76 [])), (.sl (l34 [(T34.mk (ByteArray.mk #[97]) [(T69.mk 11 (ByteArray.mk #[98]) (ByteArray.mk #[]) [] [] [] 0)] 0)]))])]) (Fn_pure (F19_ok k 0 [] [(T34.mk (ByteArray.mk #[97]) [(T69.mk 11 (ByteArray.mk #[98]) (ByteArray.mk #[]) [] [] [] 0)] 0)] 0 [] [(T34.mk (ByteArray.mk #[97]) [(T69.mk 11 (ByteArray.mk #[98]) (ByteArray.mk #[]) [] [] [] 0)] 0)] v3 h5) (by simp [AV.low, AV.lows, AObj.low]) (by simp [AV.low, AV.lows, AObj.low])) ⟨(Weak.aggs ⟨Weak.refl, Weak.nil, Weak.refl, trivial⟩ (by kernel_rfl)), (Weak.aggs ⟨Weak.refl, Weak.nil, Weak.refl, trivial⟩ (by kernel_rfl)), trivial⟩)) ?_
        refine AR_many hT 1 [1, 19] [(1, (.ptr 0 0)), (19, (.bool v3))] [.cells [(.int .i64 0), .nil, (.sl (l34 [(T34.mk (ByteArray.mk #[97]) [(T69.mk 11 (ByteArray.mk #[98]) (ByteArray.mk #[]) [] [] [] 0)] 0)]))]] (by kernel_rfl) ?_
        refine AR_op (by kernel_rfl) (OpJ_boolK hT (q := v3) (by kernel_rfl) h6) ?_
        refine AR_many hT 2 [20, 22] [(20, (.bool true)), (22, (.sl (l34 [(T34.mk (ByteArray.mk #[97]) [(T69.mk 11 (ByteArray.mk #[98]) (ByteArray.mk #[]) [] [] [] 0)] 0)])))] [.cells [(.int .i64 0), .nil, (.sl (l34 [(T34.mk (ByteArray.mk #[97]) [(T69.mk 11 (ByteArray.mk #[98]) (ByteArray.mk #[]) [] [] [] 0)] 0)]))]] (by kernel_rfl) ?_
        refine AR_op (by kernel_rfl) (OpJ_indexK hT (xs := l34 [(T34.mk (ByteArray.mk #[97]) [(T69.mk 11 (ByteArray.mk #[98]) (ByteArray.mk #[]) [] [] [] 0)] 0)]) (j := 0) (n := 3) (by kernel_rfl) (i34 h7) (by kernel_rfl)) ?_
        refine AR_many hT 2 [20, 25] [(20, (.bool true)), (25, (.sl (l69 v5)))] [.cells [(.int .i64 0), .nil, (.sl (l34 [(T34.mk (ByteArray.mk #[97]) [(T69.mk 11 (ByteArray.mk #[98]) (ByteArray.mk #[]) [] [] [] 0)] 0)]))]] (by kernel_rfl) ?_
        refine AR_op (by kernel_rfl) (OpJ_callK (g := 15) (args := [(.sl (l69 v5))]) (by kernel_rfl) Go.Proofs.Try.func15 (by kernel_rfl) (by kernel_rfl) (Fn_pure (F15_ok k v5 v7 h8) (by simp [AV.low, AV.lows, AObj.low]) (by simp [AV.low, AV.lows, AObj.low]))) ?_
        refine AR_many hT 3 [0] [(0, (.bool (v7 == 1)))] [.cells [(.int .i64 0), .nil, (.sl (l34 [(T34.mk (ByteArray.mk #[97]) [(T69.mk 11 (ByteArray.mk #[98]) (ByteArray.mk #[]) [] [] [] 0)] 0)]))]] (by kernel_rfl) ?_
        refine AR_fin (by kernel_rfl) ?_
        refine AE_seqN ?_
        refine AE_ret ?_
        refine AE_keep [0] (env' := [(0, (.bool (v7 == 1)))]) (by kernel_rfl) ?_
        simp only [Option.some.injEq] at h
        subst h
        exact AE_done ⟨trivial, by kernel_rfl, by kernel_rfl, by simp [AV.low, AV.lows, AObj.low], by simp [AV.low, AV.lows, AObj.low]⟩
      · replace h := bifF h6 h
        refine AW_reg ?_
        refine AR_many hT 1 [1, 7] [(1, (.ptr 0 0)), (7, (.agg [(.int .i64 0), .nil, .nil]))] [.cells [(.int .i64 0), .nil, (.sl (l34 [(T34.mk (ByteArray.mk #[97]) [(T69.mk 11 (ByteArray.mk #[98]) (ByteArray.mk #[]) [] [] [] 0)] 0)]))]] (by kernel_rfl) ?_
        refine AR_op (by kernel_rfl) (OpJ_callK (g := 14) (args := [(.agg [(.int .i64 0), .nil, .nil])]) (by kernel_rfl) Go.Proofs.Try.func14 (by kernel_rfl) (by kernel_rfl) (Fn_args (args := [(.agg [(.int .i64 0), .nil, .nil])]) (args' := [(.agg [(.int .i64 0), (.sl (l76 [])), (.sl (l34 []))])]) (Fn_pure (F14_ok k 0 [] [] v1 h1) (by simp [AV.low, AV.lows, AObj.low]) (by simp [AV.low, AV.lows, AObj.low])) ⟨(Weak.aggs ⟨Weak.refl, Weak.nil, Weak.nil, trivial⟩ (by kernel_rfl)), trivial⟩)) ?_
        refine AR_many hT 1 [1, 9] [(1, (.ptr 0 0)), (9, (.bool (v1 == 1)))] [.cells [(.int .i64 0), .nil, (.sl (l34 [(T34.mk (ByteArray.mk #[97]) [(T69.mk 11 (ByteArray.mk #[98]) (ByteArray.mk #[]) [] [] [] 0)] 0)]))]] (by kernel_rfl) ?_
        refine AR_op (by kernel_rfl) (OpJ_boolK hT (q := (v1 == 1)) (by kernel_rfl) h2) ?_
        refine AR_many hT 1 [1, 10, 11] [(1, (.ptr 0 0)), (10, (.bool true)), (11, (.agg [(.int .i64 0), .nil, (.sl (l34 [(T34.mk (ByteArray.mk #[97]) [(T69.mk 11 (ByteArray.mk #[98]) (ByteArray.mk #[]) [] [] [] 0)] 0)]))]))] [.cells [(.int .i64 0), .nil, (.sl (l34 [(T34.mk (ByteArray.mk #[97]) [(T69.mk 11 (ByteArray.mk #[98]) (ByteArray.mk #[]) [] [] [] 0)] 0)]))]] (by kernel_rfl) ?_
        refine AR_op (by kernel_rfl) (OpJ_callK (g := 14) (args := [(.agg [(.int .i64 0), .nil, (.sl (l34 [(T34.mk (ByteArray.mk #[97]) [(T69.mk 11 (ByteArray.mk #[98]) (ByteArray.mk #[]) [] [] [] 0)] 0)]))])]) (by kernel_rfl) Go.Proofs.Try.func14 (by kernel_rfl) (by kernel_rfl) (Fn_args (args := [(.agg [(.int .i64 0), .nil, (.sl (l34 [(T34.mk (ByteArray.mk #[97]) [(T69.mk 11 (ByteArray.mk #[98]) (ByteArray.mk #[]) [] [] [] 0)] 0)]))])]) (args' := [(.agg [(.int .i64 0), (.sl (l76 [])), (.sl (l34 [(T34.mk (ByteArray.mk #[97]) [(T69.mk 11 (ByteArray.mk #[98]) (ByteArray.mk #[]) [] [] [] 0)] 0)]))])]) (Fn_pure (F14_ok k 0 [] [(T34.mk (ByteArray.mk #[97]) [(T69.mk 11 (ByteArray.mk #[98]) (ByteArray.mk #[]) [] [] [] 0)] 0)] v2 h3) (by simp [AV.low, AV.lows, AObj.low]) (by simp [AV.low, AV.lows, AObj.low])) ⟨(Weak.aggs ⟨Weak.refl, Weak.nil, Weak.refl, trivial⟩ (by kernel_rfl)), trivial⟩)) ?_
        refine AR_many hT 2 [1, 14] [(1, (.ptr 0 0)), (14, (.bool (v2 == 0)))] [.cells [(.int .i64 0), .nil, (.sl (l34 [(T34.mk (ByteArray.mk #[97]) [(T69.mk 11 (ByteArray.mk #[98]) (ByteArray.mk #[]) [] [] [] 0)] 0)]))]] (by kernel_rfl) ?_
        refine AR_op (by kernel_rfl) (OpJ_boolK hT (q := (v2 == 0)) (by kernel_rfl) h4) ?_
        refine AR_many hT 2 [1, 15, 16, 17] [(1, (.ptr 0 0)), (15, (.bool true)), (16, (.agg [(.int .i64 0), .nil, (.sl (l34 [(T34.mk (ByteArray.mk #[97]) [(T69.mk 11 (ByteArray.mk #[98]) (ByteArray.mk #[]) [] [] [] 0)] 0)]))])), (17, (.agg [(.int .i64 0), .nil, (.sl (l34 [(T34.mk (ByteArray.mk #[97]) [(T69.mk 11 (ByteArray.mk #[98]) (ByteArray.mk #[]) [] [] [] 0)] 0)]))]))] [.cells [(.int .i64 0), .nil, (.sl (l34 [(T34.mk (ByteArray.mk #[97]) [(T69.mk 11 (ByteArray.mk #[98]) (ByteArray.mk #[]) [] [] [] 0)] 0)]))]] (by kernel_rfl) ?_
        refine AR_op (by kernel_rfl) (OpJ_callK (g := 19) (args := [(.agg [(.int .i64 0), .nil, (.sl (l34 [(T34.mk (ByteArray.mk #[97]) [(T69.mk 11 (ByteArray.mk #[98]) (ByteArray.mk #[]) [] [] [] 0)] 0)]))]), (.agg [(.int .i64 0), .nil, (.sl (l34 [(T34.mk (ByteArray.mk #[97]) [(T69.mk 11 (ByteArray.mk #[98]) (ByteArray.mk #[]) [] [] [] 0)] 0)]))])]) (by kernel_rfl) Go.Proofs.Try.func19 (by kernel_rfl) (by kernel_rfl) (Fn_args (args := [(.agg [(.int .i64 0), .nil, (.sl (l34 [(T34.mk (ByteArray.mk #[97]) [(T69.mk 11 (ByteArray.mk #[98]) (ByteArray.mk #[]) [] [] [] 0)] 0)]))]), (.agg [(.int .i64 0), .nil, (.sl (l34 [(T34.mk (ByteArray.mk #[97]) [(T69.mk 11 (ByteArray.mk #[98]) (ByteArray.mk #[]) [] [] [] 0)] 0)]))])]) (args' := [(.agg [(.int .i64 0), (.sl (l76 [])), (.sl (l34 [(T34.mk (ByteArray.mk #[97]) [(T69.mk 11 (ByteArray.mk #[98]) (ByteArray.mk #[]) [] [] [] 0)] 0)]))]), (.agg [(.int .i64 0), (.sl (l76 [])), (.sl (l34 [(T34.mk (ByteArray.mk #[97]) [(T69.mk 11 (ByteArray.mk #[98]) (ByteArray.mk #[]) [] [] [] 0)] 0)]))])]) (Fn_pure (F19_ok k 0 [] [(T34.mk (ByteArray.mk #[97]) [(T69.mk 11 (ByteArray.mk #[98]) (ByteArray.mk #[]) [] [] [] 0)] 0)] 0 [] [(T34.mk (ByteArray.mk #[97]) [(T69.mk 11 (ByteArray.mk #[98]) (ByteArray.mk #[]) [] [] [] 0)] 0)] v3 h5) (by simp [AV.low, AV.lows, AObj.low]) (by simp [AV.low, AV.lows, AObj.low])) ⟨(Weak.aggs ⟨Weak.refl, Weak.nil, Weak.refl, trivial⟩ (by kernel_rfl)), (Weak.aggs ⟨Weak.refl, Weak.nil, Weak.refl, trivial⟩ (by kernel_rfl)), trivial⟩)) ?_
        refine AR_many hT 1 [1, 19] [(1, (.ptr 0 0)), (19, (.bool v3))] [.cells [(.int .i64 0), .nil, (.sl (l34 [(T34.mk (ByteArray.mk #[97]) [(T69.mk 11 (ByteArray.mk #[98]) (ByteArray.mk #[]) [] [] [] 0)] 0)]))]] (by kernel_rfl) ?_
        refine AR_op (by kernel_rfl) (OpJ_boolK hT (q := v3) (by kernel_rfl) h6) ?_
        refine AR_many hT 9 [0] [(0, (.bool false))] [.cells [(.int .i64 0), .nil, (.sl (l34 [(T34.mk (ByteArray.mk #[97]) [(T69.mk 11 (ByteArray.mk #[98]) (ByteArray.mk #[]) [] [] [] 0)] 0)]))]] (by kernel_rfl) ?_
        refine AR_fin (by kernel_rfl) ?_
        refine AE_seqN ?_
        refine AE_ret ?_
        refine AE_keep [0] (env' := [(0, (.bool false))]) (by kernel_rfl) ?_
        simp only [Option.some.injEq] at h
        subst h
        exact AE_done ⟨trivial, by kernel_rfl, by kernel_rfl, by simp [AV.low, AV.lows, AObj.low], by simp [AV.low, AV.lows, AObj.low]⟩
    · replace h := bifF h4 h
      refine AW_reg ?_
      refine AR_many hT 1 [1, 7] [(1, (.ptr 0 0)), (7, (.agg [(.int .i64 0), .nil, .nil]))] [.cells [(.int .i64 0), .nil, (.sl (l34 [(T34.mk (ByteArray.mk #[97]) [(T69.mk 11 (ByteArray.mk #[98]) (ByteArray.mk #[]) [] [] [] 0)] 0)]))]] (by kernel_rfl) ?_
      refine AR_op (by kernel_rfl) (OpJ_callK (g := 14) (args := [(.agg [(.int .i64 0), .nil, .nil])]) (by kernel_rfl) Go.Proofs.Try.func14 (by kernel_rfl) (by kernel_rfl) (Fn_args (args := [(.agg [(.int .i64 0), .nil, .nil])]) (args' := [(.agg [(.int .i64 0), (.sl (l76 [])), (.sl (l34 []))])]) (Fn_pure (F14_ok k 0 [] [] v1 h1) (by simp [AV.low, AV.lows, AObj.low]) (by simp [AV.low, AV.lows, AObj.low])) ⟨(Weak.aggs ⟨Weak.refl, Weak.nil, Weak.nil, trivial⟩ (by kernel_rfl)), trivial⟩)) ?_
      refine AR_many hT 1 [1, 9] [(1, (.ptr 0 0)), (9, (.bool (v1 == 1)))] [.cells [(.int .i64 0), .nil, (.sl (l34 [(T34.mk (ByteArray.mk #[97]) [(T69.mk 11 (ByteArray.mk #[98]) (ByteArray.mk #[]) [] [] [] 0)] 0)]))]] (by kernel_rfl) ?_
      refine AR_op (by kernel_rfl) (OpJ_boolK hT (q := (v1 == 1)) (by kernel_rfl) h2) ?_
      refine AR_many hT 1 [1, 10, 11] [(1, (.ptr 0 0)), (10, (.bool true)), (11, (.agg [(.int .i64 0), .nil, (.sl (l34 [(T34.mk (ByteArray.mk #[97]) [(T69.mk 11 (ByteArray.mk #[98]) (ByteArray.mk #[]) [] [] [] 0)] 0)]))]))] [.cells [(.int .i64 0), .nil, (.sl (l34 [(T34.mk (ByteArray.mk #[97]) [(T69.mk 11 (ByteArray.mk #[98]) (ByteArray.mk #[]) [] [] [] 0)] 0)]))]] (by kernel_rfl) ?_
      refine AR_op (by kernel_rfl) (OpJ_callK (g := 14) (args := [(.agg [(.int .i64 0), .nil, (.sl (l34 [(T34.mk (ByteArray.mk #[97]) [(T69.mk 11 (ByteArray.mk #[98]) (ByteArray.mk #[]) [] [] [] 0)] 0)]))])]) (by kernel_rfl) Go.Proofs.Try.func14 (by kernel_rfl) (by kernel_rfl) (Fn_args (args := [(.agg [(.int .i64 0), .nil, (.sl (l34 [(T34.mk (ByteArray.mk #[97]) [(T69.mk 11 (ByteArray.mk #[98]) (ByteArray.mk #[]) [] [] [] 0)] 0)]))])]) (args' := [(.agg [(.int .i64 0), (.sl (l76 [])), (.sl (l34 [(T34.mk (ByteArray.mk #[97]) [(T69.mk 11 (ByteArray.mk #[98]) (ByteArray.mk #[]) [] [] [] 0)] 0)]))])]) (Fn_pure (F14_ok k 0 [] [(T34.mk (ByteArray.mk #[97]) [(T69.mk 11 (ByteArray.mk #[98]) (ByteArray.mk #[]) [] [] [] 0)] 0)] v2 h3) (by simp [AV.low, AV.lows, AObj.low]) (by simp [AV.low, AV.lows, AObj.low])) ⟨(Weak.aggs ⟨Weak.refl, Weak.nil, Weak.refl, trivial⟩ (by kernel_rfl)), trivial⟩)) ?_
      refine AR_many hT 2 [1, 14] [(1, (.ptr 0 0)), (14, (.bool (v2 == 0)))] [.cells [(.int .i64 0), .nil, (.sl (l34 [(T34.mk (ByteArray.mk #[97]) [(T69.mk 11 (ByteArray.mk #[98]) (ByteArray.mk #[]) [] [] [] 0)] 0)]))]] (by kernel_rfl) ?_
      refine AR_op (by kernel_rfl) (OpJ_boolK hT (q := (v2 == 0)) (by kernel_rfl) h4) ?_
      refine AR_many hT 14 [0] [(0, (.bool false))] [.cells [(.int .i64 0), .nil, (.sl (l34 [(T34.mk (ByteArray.mk #[97]) [(T69.mk 11 (ByteArray.mk #[98]) (ByteArray.mk #[]) [] [] [] 0)] 0)]))]] (by kernel_rfl) ?_
      refine AR_fin (by kernel_rfl) ?_
      refine AE_seqN ?_
      refine AE_ret ?_
      refine AE_keep [0] (env' := [(0, (.bool false))]) (by kernel_rfl) ?_
      simp only [Option.some.injEq] at h
      subst h
      exact AE_done ⟨trivial, by kernel_rfl, by kernel_rfl, by simp [AV.low, AV.lows, AObj.low], by simp [AV.low, AV.lows, AObj.low]⟩
  · replace h := bifF h2 h
    refine AW_reg ?_
    refine AR_many hT 1 [1, 7] [(1, (.ptr 0 0)), (7, (.agg [(.int .i64 0), .nil, .nil]))] [.cells [(.int .i64 0), .nil, (.sl (l34 [(T34.mk (ByteArray.mk #[97]) [(T69.mk 11 (ByteArray.mk #[98]) (ByteArray.mk #[]) [] [] [] 0)] 0)]))]] (by kernel_rfl) ?_
    refine AR_op (by kernel_rfl) (OpJ_callK (g := 14) (args := [(.agg [(.int .i64 0), .nil, .nil])]) (by kernel_rfl) Go.Proofs.Try.func14 (by kernel_rfl) (by kernel_rfl) (Fn_args (args := [(.agg [(.int .i64 0), .nil, .nil])]) (args' := [(.agg [(.int .i64 0), (.sl (l76 [])), (.sl (l34 []))])]) (Fn_pure (F14_ok k 0 [] [] v1 h1) (by simp [AV.low, AV.lows, AObj.low]) (by simp [AV.low, AV.lows, AObj.low])) ⟨(Weak.aggs ⟨Weak.refl, Weak.nil, Weak.nil, trivial⟩ (by kernel_rfl)), trivial⟩)) ?_
    refine AR_many hT 1 [1, 9] [(1, (.ptr 0 0)), (9, (.bool (v1 == 1)))] [.cells [(.int .i64 0), .nil, (.sl (l34 [(T34.mk (ByteArray.mk #[97]) [(T69.mk 11 (ByteArray.mk #[98]) (ByteArray.mk #[]) [] [] [] 0)] 0)]))]] (by kernel_rfl) ?_
    refine AR_op (by kernel_rfl) (OpJ_boolK hT (q := (v1 == 1)) (by kernel_rfl) h2) ?_
    refine AR_many hT 19 [0] [(0, (.bool false))] [.cells [(.int .i64 0), .nil, (.sl (l34 [(T34.mk (ByteArray.mk #[97]) [(T69.mk 11 (ByteArray.mk #[98]) (ByteArray.mk #[]) [] [] [] 0)] 0)]))]] (by kernel_rfl) ?_
    refine AR_fin (by kernel_rfl) ?_
    refine AE_seqN ?_
    refine AE_ret ?_
    refine AE_keep [0] (env' := [(0, (.bool false))]) (by kernel_rfl) ?_
    simp only [Option.some.injEq] at h
    subst h
    exact AE_done ⟨trivial, by kernel_rfl, by kernel_rfl, by simp [AV.low, AV.lows, AObj.low], by simp [AV.low, AV.lows, AObj.low]⟩

def F12 (k : Nat) (v1 : Int) (v2 : (List T76)) (v3 : (List T34)) : Option (Int × Int) :=
  ((F37 k v1 v2 v3).bind fun ⟨v4, v5, v6⟩ =>
    (bif (!v4) then
      some (0, 0)
    else
      some (v5, v6)))

theorem F12_ok (k : Nat) : ∀ (v1 : Int) (v2 : (List T76)) (v3 : (List T34)) (r1 : Int) (r2 : Int), F12 k v1 v2 v3 = some (r1, r2) → Fn prog 12 [(.agg [(.int .i64 v1), (.sl (l76 v2)), (.sl (l34 v3))])] [] (.tup [(.int .i64 r1), (.int .i64 r2)]) [] := by
  intro v1 v2 v3 r1 r2 h
  rw [F12] at h
  refine Fn_bodyK hT Go.Proofs.Try.func12 (c := Go.Proofs.Try.f12.body.getD .skip) (by kernel_rfl) (by kernel_rfl) (by kernel_rfl) ?_
  refine AW_seq ?_
  refine AW_reg ?_
  refine AR_many hT 3 [1] [(1, (.ptr 0 0))] [.cells [(.int .i64 v1), (.sl (l76 v2)), (.sl (l34 v3))]] (by kernel_rfl) ?_
  refine AR_fin (by kernel_rfl) ?_
  refine AE_seqN ?_
  refine AW_seq ?_
  obtain ⟨⟨v4, v5, v6⟩, h1, h⟩ := Option.bind_eq_some_iff.mp h
  try dsimp only at h
  refine AW_reg ?_
  refine AR_many hT 1 [7] [(7, (.agg [(.int .i64 v1), (.sl (l76 v2)), (.sl (l34 v3))]))] [.cells [(.int .i64 v1), (.sl (l76 v2)), (.sl (l34 v3))]] (by kernel_rfl) ?_
  refine AR_op (by kernel_rfl) (OpJ_callK (g := 37) (args := [(.agg [(.int .i64 v1), (.sl (l76 v2)), (.sl (l34 v3))])]) (by kernel_rfl) Go.Proofs.Try.func37 (by kernel_rfl) (by kernel_rfl) (Fn_in (L := [.cells [(.int .i64 v1), (.sl (l76 v2)), (.sl (l34 v3))]]) (args' := [(.agg [(.int .i64 v1), (.sl (l76 v2)), (.sl (l34 v3))])]) (res' := (.tup [(.ptr 2 0), (.bool v4)])) (L'' := [.cells [(.int .i64 v1), (.sl (l76 v2)), (.sl (l34 v3))], .cells [(.int .i64 v1), (.sl (l76 v2)), (.sl (l34 v3))], .cells [(.int .i64 v5), (.int .i64 v6)]]) [] (F37_ok k v1 v2 v3 v4 v5 v6 h1) rfl (by decide) trivial (by simp [AV.low, AV.lows, AObj.low]) (by simp [AV.low, AV.lows, AObj.low]) (by kernel_rfl) (by simp [AV.ren, AV.rens, AObj.ren, gname, putBack]) (by simp [AV.ren, AV.rens, AObj.ren, gname, putBack]) (by simp [AV.ren, AV.rens, AObj.ren, gname, putBack]))) ?_
  refine AR_many hT 5 [4, 5] [(4, (.ptr 2 0)), (5, (.bool v4))] [.cells [(.int .i64 v1), (.sl (l76 v2)), (.sl (l34 v3))], .cells [(.int .i64 v1), (.sl (l76 v2)), (.sl (l34 v3))], .cells [(.int .i64 v5), (.int .i64 v6)]] (by kernel_rfl) ?_
  refine AR_fin (by kernel_rfl) ?_
  refine AE_seqN ?_
  refine AW_seq ?_
  refine AW_seq ?_
  refine AW_reg ?_
  refine AR_many hT 2 [4, 12] [(4, (.ptr 2 0)), (12, (.bool (!v4)))] [.cells [(.int .i64 v1), (.sl (l76 v2)), (.sl (l34 v3))], .cells [(.int .i64 v1), (.sl (l76 v2)), (.sl (l34 v3))], .cells [(.int .i64 v5), (.int .i64 v6)]] (by kernel_rfl) ?_
  refine AR_fin (by kernel_rfl) ?_
  refine AE_seqN ?_
  rcases Bool.eq_false_or_eq_true (!v4) with h2 | h2
  · replace h := bifT h2 h
    refine AW_ifT (q := (!v4)) (by kernel_rfl) h2 ?_
    refine AW_seq ?_
    refine AW_reg ?_
    refine AR_many hT 2 [2, 3] [(2, (.int .i64 0)), (3, (.int .i64 0))] [.cells [(.int .i64 v1), (.sl (l76 v2)), (.sl (l34 v3))], .cells [(.int .i64 v1), (.sl (l76 v2)), (.sl (l34 v3))], .cells [(.int .i64 v5), (.int .i64 v6)]] (by kernel_rfl) ?_
    refine AR_fin (by kernel_rfl) ?_
    refine AE_seqN ?_
    refine AE_ret ?_
    refine AE_seqR ?_
    refine AE_keep [2, 3] (env' := [(2, (.int .i64 0)), (3, (.int .i64 0))]) (by kernel_rfl) ?_
    simp only [Option.some.injEq, Prod.mk.injEq] at h
    obtain ⟨rfl, rfl⟩ := h
    exact AE_done ⟨trivial, by kernel_rfl, by kernel_rfl, by simp [AV.low, AV.lows, AObj.low], by simp [AV.low, AV.lows, AObj.low]⟩
  · replace h := bifF h2 h
    refine AW_ifF (q := (!v4)) (by kernel_rfl) h2 ?_
    refine AE_skip ?_
    refine AE_seqN ?_
    refine AW_seq ?_
    refine AW_drx hmix [⟨(.ptr 2 0), [], 0, 0, false⟩, ⟨(.ptr 2 0), [0], 0, 0, false⟩, ⟨(.ptr 2 0), [0, 1], 0, 0, false⟩, ⟨(.int .i64 v5), [0, 1, 2], 0, 0, false⟩, ⟨(.ptr 2 0), [], 0, 0, false⟩, ⟨(.ptr 2 0), [4], 0, 0, false⟩, ⟨(.ptr 2 1), [4, 5], 0, 0, false⟩, ⟨(.int .i64 v6), [4, 5, 6], 0, 0, false⟩, ⟨(.int .i64 v5), [0, 1, 2, 3], 0, 0, false⟩, ⟨(.int .i64 v6), [0, 1, 2, 3, 4, 5, 6, 7, 8], 0, 0, false⟩] [] (fun _ => [.cells [(.int .i64 v1), (.sl (l76 v2)), (.sl (l34 v3))], .cells [(.int .i64 v1), (.sl (l76 v2)), (.sl (l34 v3))], .cells [(.int .i64 v5), (.int .i64 v6)]]) [2, 3] [(2, (.int .i64 v5)), (3, (.int .i64 v6))] [.cells [(.int .i64 v1), (.sl (l76 v2)), (.sl (l34 v3))], .cells [(.int .i64 v1), (.sl (l76 v2)), (.sl (l34 v3))], .cells [(.int .i64 v5), (.int .i64 v6)]] (by kernel_rfl) rfl rfl (by kernel_rfl) ?_ ?_
    · refine SA_plain hT 10 (by kernel_rfl) ?_
      exact SA_end (by kernel_rfl)
    refine AE_seqN ?_
    refine AE_ret ?_
    refine AE_keep [2, 3] (env' := [(2, (.int .i64 v5)), (3, (.int .i64 v6))]) (by kernel_rfl) ?_
    simp only [Option.some.injEq, Prod.mk.injEq] at h
    obtain ⟨rfl, rfl⟩ := h
    exact AE_done ⟨trivial, by kernel_rfl, by kernel_rfl, by simp [AV.low, AV.lows, AObj.low], by simp [AV.low, AV.lows, AObj.low]⟩

def F121 (k : Nat) : Option ((List ByteArray)) :=
  some ([(ByteArray.mk #[119, 105, 100, 116, 104]), (ByteArray.mk #[118, 97, 114]), (ByteArray.mk #[97, 116, 111, 109, 105, 99]), (ByteArray.mk #[109, 117, 116, 101, 120]), (ByteArray.mk #[99, 104, 97, 110]), (ByteArray.mk #[112, 114, 111, 99]), (ByteArray.mk #[115, 101, 116]), (ByteArray.mk #[108, 111, 97, 100]), (ByteArray.mk #[115, 116, 111, 114, 101]), (ByteArray.mk #[103, 101, 116]), (ByteArray.mk #[112, 117, 116]), (ByteArray.mk #[97, 100, 100]), (ByteArray.mk #[99, 97, 115]), (ByteArray.mk #[108, 111, 99, 107]), (ByteArray.mk #[115, 101, 110, 100]), (ByteArray.mk #[114, 101, 99, 118]), (ByteArray.mk #[103, 111]), (ByteArray.mk #[105, 102]), (ByteArray.mk #[101, 108, 115, 101]), (ByteArray.mk #[119, 104, 105, 108, 101]), (ByteArray.mk #[98, 114, 101, 97, 107]), (ByteArray.mk #[99, 111, 110, 116, 105, 110, 117, 101]), (ByteArray.mk #[97, 115, 115, 101, 114, 116])])

theorem F121_ok (k : Nat) : ∀  (r1 : (List ByteArray)), F121 k = some (r1) → Fn prog 121 [] [] (.sl (l9 r1)) [] := by
  intro r1 h
  rw [F121] at h
  refine Fn_bodyK hT Go.Proofs.Try.func121 (c := Go.Proofs.Try.f121.body.getD .skip) (by kernel_rfl) (by kernel_rfl) (by kernel_rfl) ?_
  refine AW_seq ?_
  refine AW_reg ?_
  refine AR_many hT 1 [] [] [] (by kernel_rfl) ?_
  refine AR_fin (by kernel_rfl) ?_
  refine AE_seqN ?_
  refine AW_seq ?_
  refine AW_reg ?_
  refine AR_op (by kernel_rfl) (OpJ_builtK hT (e := 9) (k := 1) (xs := [(.str (ByteArray.mk #[119, 105, 100, 116, 104])), (.str (ByteArray.mk #[118, 97, 114])), (.str (ByteArray.mk #[97, 116, 111, 109, 105, 99])), (.str (ByteArray.mk #[109, 117, 116, 101, 120])), (.str (ByteArray.mk #[99, 104, 97, 110])), (.str (ByteArray.mk #[112, 114, 111, 99])), (.str (ByteArray.mk #[115, 101, 116])), (.str (ByteArray.mk #[108, 111, 97, 100])), (.str (ByteArray.mk #[115, 116, 111, 114, 101])), (.str (ByteArray.mk #[103, 101, 116])), (.str (ByteArray.mk #[112, 117, 116])), (.str (ByteArray.mk #[97, 100, 100])), (.str (ByteArray.mk #[99, 97, 115])), (.str (ByteArray.mk #[108, 111, 99, 107])), (.str (ByteArray.mk #[115, 101, 110, 100])), (.str (ByteArray.mk #[114, 101, 99, 118])), (.str (ByteArray.mk #[103, 111])), (.str (ByteArray.mk #[105, 102])), (.str (ByteArray.mk #[101, 108, 115, 101])), (.str (ByteArray.mk #[119, 104, 105, 108, 101])), (.str (ByteArray.mk #[98, 114, 101, 97, 107])), (.str (ByteArray.mk #[99, 111, 110, 116, 105, 110, 117, 101])), (.str (ByteArray.mk #[97, 115, 115, 101, 114, 116]))]) 0 (by kernel_rfl) (by kernel_rfl) (by simp [AV.low, AV.lows, AObj.low]) (by simp [AV.low, AV.lows, AObj.low])) ?_
  refine AR_many hT 1 [0] [(0, (.sl (l9 [(ByteArray.mk #[119, 105, 100, 116, 104]), (ByteArray.mk #[118, 97, 114]), (ByteArray.mk #[97, 116, 111, 109, 105, 99]), (ByteArray.mk #[109, 117, 116, 101, 120]), (ByteArray.mk #[99, 104, 97, 110]), (ByteArray.mk #[112, 114, 111, 99]), (ByteArray.mk #[115, 101, 116]), (ByteArray.mk #[108, 111, 97, 100]), (ByteArray.mk #[115, 116, 111, 114, 101]), (ByteArray.mk #[103, 101, 116]), (ByteArray.mk #[112, 117, 116]), (ByteArray.mk #[97, 100, 100]), (ByteArray.mk #[99, 97, 115]), (ByteArray.mk #[108, 111, 99, 107]), (ByteArray.mk #[115, 101, 110, 100]), (ByteArray.mk #[114, 101, 99, 118]), (ByteArray.mk #[103, 111]), (ByteArray.mk #[105, 102]), (ByteArray.mk #[101, 108, 115, 101]), (ByteArray.mk #[119, 104, 105, 108, 101]), (ByteArray.mk #[98, 114, 101, 97, 107]), (ByteArray.mk #[99, 111, 110, 116, 105, 110, 117, 101]), (ByteArray.mk #[97, 115, 115, 101, 114, 116])])))] [] (by kernel_rfl) ?_
  refine AR_fin (by kernel_rfl) ?_
  refine AE_seqN ?_
  refine AE_ret ?_
  refine AE_keep [0] (env' := [(0, (.sl (l9 [(ByteArray.mk #[119, 105, 100, 116, 104]), (ByteArray.mk #[118, 97, 114]), (ByteArray.mk #[97, 116, 111, 109, 105, 99]), (ByteArray.mk #[109, 117, 116, 101, 120]), (ByteArray.mk #[99, 104, 97, 110]), (ByteArray.mk #[112, 114, 111, 99]), (ByteArray.mk #[115, 101, 116]), (ByteArray.mk #[108, 111, 97, 100]), (ByteArray.mk #[115, 116, 111, 114, 101]), (ByteArray.mk #[103, 101, 116]), (ByteArray.mk #[112, 117, 116]), (ByteArray.mk #[97, 100, 100]), (ByteArray.mk #[99, 97, 115]), (ByteArray.mk #[108, 111, 99, 107]), (ByteArray.mk #[115, 101, 110, 100]), (ByteArray.mk #[114, 101, 99, 118]), (ByteArray.mk #[103, 111]), (ByteArray.mk #[105, 102]), (ByteArray.mk #[101, 108, 115, 101]), (ByteArray.mk #[119, 104, 105, 108, 101]), (ByteArray.mk #[98, 114, 101, 97, 107]), (ByteArray.mk #[99, 111, 110, 116, 105, 110, 117, 101]), (ByteArray.mk #[97, 115, 115, 101, 114, 116])])))]) (by kernel_rfl) ?_
  simp only [Option.some.injEq] at h
  subst h
  exact AE_done ⟨trivial, by kernel_rfl, by kernel_rfl, by simp [AV.low, AV.lows, AObj.low], by simp [AV.low, AV.lows, AObj.low]⟩
end Go.Vm
