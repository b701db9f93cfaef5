/- Printed by gen.py: functions of the program as Lean functions, and that they do what these say. -/
import Derived.Test.YtafpcogpabnjmaaWf2
set_option linter.unusedVariables false
set_option linter.unusedSimpArgs false
set_option linter.unusedSectionVars false
set_option maxRecDepth 20000
namespace Go.Vm
mutual
def F122_l0 : Nat → ByteArray → Int → Option (Int)
  | 0, _, _ => none
  | k1 + 1, v1, v2 =>
    (bif (decide (v2 < ((l50 [[(ByteArray.mk #[124, 124])], [(ByteArray.mk #[38, 38])], [(ByteArray.mk #[61, 61]), (ByteArray.mk #[33, 61]), (ByteArray.mk #[60]), (ByteArray.mk #[60, 61]), (ByteArray.mk #[62]), (ByteArray.mk #[62, 61])], [(ByteArray.mk #[43]), (ByteArray.mk #[45]), (ByteArray.mk #[124]), (ByteArray.mk #[94])], [(ByteArray.mk #[42]), (ByteArray.mk #[47]), (ByteArray.mk #[37]), (ByteArray.mk #[60, 60]), (ByteArray.mk #[62, 62]), (ByteArray.mk #[38])]]).length : Int))) then
      F122_l1 k1 v1 v2 0
    else
      some (0))
def F122_l1 : Nat → ByteArray → Int → Int → Option (Int)
  | 0, _, _, _ => none
  | k4 + 1, v1, v2, v3 =>
    ((idx [[(ByteArray.mk #[124, 124])], [(ByteArray.mk #[38, 38])], [(ByteArray.mk #[61, 61]), (ByteArray.mk #[33, 61]), (ByteArray.mk #[60]), (ByteArray.mk #[60, 61]), (ByteArray.mk #[62]), (ByteArray.mk #[62, 61])], [(ByteArray.mk #[43]), (ByteArray.mk #[45]), (ByteArray.mk #[124]), (ByteArray.mk #[94])], [(ByteArray.mk #[42]), (ByteArray.mk #[47]), (ByteArray.mk #[37]), (ByteArray.mk #[60, 60]), (ByteArray.mk #[62, 62]), (ByteArray.mk #[38])]] v2).bind fun v4 =>
      (bif (decide (v3 < ((l9 v4).length : Int))) then
        ((idx [[(ByteArray.mk #[124, 124])], [(ByteArray.mk #[38, 38])], [(ByteArray.mk #[61, 61]), (ByteArray.mk #[33, 61]), (ByteArray.mk #[60]), (ByteArray.mk #[60, 61]), (ByteArray.mk #[62]), (ByteArray.mk #[62, 61])], [(ByteArray.mk #[43]), (ByteArray.mk #[45]), (ByteArray.mk #[124]), (ByteArray.mk #[94])], [(ByteArray.mk #[42]), (ByteArray.mk #[47]), (ByteArray.mk #[37]), (ByteArray.mk #[60, 60]), (ByteArray.mk #[62, 62]), (ByteArray.mk #[38])]] v2).bind fun v5 =>
          ((idx v5 v3).bind fun v6 =>
            (bif (v6.toList == v1.toList) then
              some ((IntKind.wrap .i64 (v2 + 1)))
            else
              F122_l1 k4 v1 v2 (IntKind.wrap .i64 (v3 + 1)))))
      else
        F122_l0 k4 v1 (IntKind.wrap .i64 (v2 + 1))))
end

def F122 (k : Nat) (v1 : ByteArray) : Option (Int) :=
  F122_l0 k v1 0

theorem F122_ok (k : Nat) : ∀ (v1 : ByteArray) (r1 : Int), F122 k v1 = some (r1) → Fn prog 122 [(.str v1)] [] (.int .i64 r1) [] := by
  intro v1 r1 h
  rw [F122] at h
  refine Fn_bodyK hT Go.Proofs.Try.func122 (c := Go.Proofs.Try.f122.body.getD .skip) (by kernel_rfl) (by kernel_rfl) (by kernel_rfl) ?_
  refine AW_seq ?_
  refine AW_reg ?_
  refine AR_many hT 1 [0] [(0, (.str v1))] [] (by kernel_rfl) ?_
  refine AR_fin (by kernel_rfl) ?_
  refine AE_seqN ?_
  refine AW_seq ?_
  refine AW_reg ?_
  refine AR_op (by kernel_rfl) (OpJ_builtK hT (e := 9) (k := 1) (xs := [(.str (ByteArray.mk #[124, 124]))]) 0 (by kernel_rfl) (by kernel_rfl) (by simp [AV.low, AV.lows, AObj.low]) (by simp [AV.low, AV.lows, AObj.low])) ?_
  refine AR_op (by kernel_rfl) (OpJ_builtK hT (e := 9) (k := 1) (xs := [(.str (ByteArray.mk #[38, 38]))]) 0 (by kernel_rfl) (by kernel_rfl) (by simp [AV.low, AV.lows, AObj.low]) (by simp [AV.low, AV.lows, AObj.low])) ?_
  refine AR_op (by kernel_rfl) (OpJ_builtK hT (e := 9) (k := 1) (xs := [(.str (ByteArray.mk #[61, 61])), (.str (ByteArray.mk #[33, 61])), (.str (ByteArray.mk #[60])), (.str (ByteArray.mk #[60, 61])), (.str (ByteArray.mk #[62])), (.str (ByteArray.mk #[62, 61]))]) 0 (by kernel_rfl) (by kernel_rfl) (by simp [AV.low, AV.lows, AObj.low]) (by simp [AV.low, AV.lows, AObj.low])) ?_
  refine AR_op (by kernel_rfl) (OpJ_builtK hT (e := 9) (k := 1) (xs := [(.str (ByteArray.mk #[43])), (.str (ByteArray.mk #[45])), (.str (ByteArray.mk #[124])), (.str (ByteArray.mk #[94]))]) 0 (by kernel_rfl) (by kernel_rfl) (by simp [AV.low, AV.lows, AObj.low]) (by simp [AV.low, AV.lows, AObj.low])) ?_
  refine AR_op (by kernel_rfl) (OpJ_builtK hT (e := 9) (k := 1) (xs := [(.str (ByteArray.mk #[42])), (.str (ByteArray.mk #[47])), (.str (ByteArray.mk #[37])), (.str (ByteArray.mk #[60, 60])), (.str (ByteArray.mk #[62, 62])), (.str (ByteArray.mk #[38]))]) 0 (by kernel_rfl) (by kernel_rfl) (by simp [AV.low, AV.lows, AObj.low]) (by simp [AV.low, AV.lows, AObj.low])) ?_
  refine AR_op (by kernel_rfl) (OpJ_builtK hT (e := 50) (k := 1) (xs := [(.sl (l9 [(ByteArray.mk #[124, 124])])), (.sl (l9 [(ByteArray.mk #[38, 38])])), (.sl (l9 [(ByteArray.mk #[61, 61]), (ByteArray.mk #[33, 61]), (ByteArray.mk #[60]), (ByteArray.mk #[60, 61]), (ByteArray.mk #[62]), (ByteArray.mk #[62, 61])])), (.sl (l9 [(ByteArray.mk #[43]), (ByteArray.mk #[45]), (ByteArray.mk #[124]), (ByteArray.mk #[94])])), (.sl (l9 [(ByteArray.mk #[42]), (ByteArray.mk #[47]), (ByteArray.mk #[37]), (ByteArray.mk #[60, 60]), (ByteArray.mk #[62, 62]), (ByteArray.mk #[38])]))]) 0 (by kernel_rfl) (by kernel_rfl) (by simp [AV.low, AV.lows, AObj.low]) (by simp [AV.low, AV.lows, AObj.low])) ?_
  refine AR_many hT 1 [0, 3] [(0, (.str v1)), (3, (.sl (l50 [[(ByteArray.mk #[124, 124])], [(ByteArray.mk #[38, 38])], [(ByteArray.mk #[61, 61]), (ByteArray.mk #[33, 61]), (ByteArray.mk #[60]), (ByteArray.mk #[60, 61]), (ByteArray.mk #[62]), (ByteArray.mk #[62, 61])], [(ByteArray.mk #[43]), (ByteArray.mk #[45]), (ByteArray.mk #[124]), (ByteArray.mk #[94])], [(ByteArray.mk #[42]), (ByteArray.mk #[47]), (ByteArray.mk #[37]), (ByteArray.mk #[60, 60]), (ByteArray.mk #[62, 62]), (ByteArray.mk #[38])]])))] [] (by kernel_rfl) ?_
  refine AR_fin (by kernel_rfl) ?_
  refine AE_seqN ?_
  refine AW_seq ?_
  refine AW_seq ?_
  refine AW_reg ?_
  refine AR_many hT 1 [0, 3, 4] [(0, (.str v1)), (3, (.sl (l50 [[(ByteArray.mk #[124, 124])], [(ByteArray.mk #[38, 38])], [(ByteArray.mk #[61, 61]), (ByteArray.mk #[33, 61]), (ByteArray.mk #[60]), (ByteArray.mk #[60, 61]), (ByteArray.mk #[62]), (ByteArray.mk #[62, 61])], [(ByteArray.mk #[43]), (ByteArray.mk #[45]), (ByteArray.mk #[124]), (ByteArray.mk #[94])], [(ByteArray.mk #[42]), (ByteArray.mk #[47]), (ByteArray.mk #[37]), (ByteArray.mk #[60, 60]), (ByteArray.mk #[62, 62]), (ByteArray.mk #[38])]]))), (4, (.int .i64 0))] [] (by kernel_rfl) ?_
  refine AR_fin (by kernel_rfl) ?_
  refine AE_seqN ?_
  refine AW_block ?_
  refine AW_keep [0, 3, 4] (env' := [(0, (.str v1)), (3, (.sl (l50 [[(ByteArray.mk #[124, 124])], [(ByteArray.mk #[38, 38])], [(ByteArray.mk #[61, 61]), (ByteArray.mk #[33, 61]), (ByteArray.mk #[60]), (ByteArray.mk #[60, 61]), (ByteArray.mk #[62]), (ByteArray.mk #[62, 61])], [(ByteArray.mk #[43]), (ByteArray.mk #[45]), (ByteArray.mk #[124]), (ByteArray.mk #[94])], [(ByteArray.mk #[42]), (ByteArray.mk #[47]), (ByteArray.mk #[37]), (ByteArray.mk #[60, 60]), (ByteArray.mk #[62, 62]), (ByteArray.mk #[38])]]))), (4, (.int .i64 0))]) (by kernel_rfl) ?_
  refine AW_loop (fun n env L => n ≤ k ∧ ∃ (v2 : Int), env = [(0, (.str v1)), (3, (.sl (l50 [[(ByteArray.mk #[124, 124])], [(ByteArray.mk #[38, 38])], [(ByteArray.mk #[61, 61]), (ByteArray.mk #[33, 61]), (ByteArray.mk #[60]), (ByteArray.mk #[60, 61]), (ByteArray.mk #[62]), (ByteArray.mk #[62, 61])], [(ByteArray.mk #[43]), (ByteArray.mk #[45]), (ByteArray.mk #[124]), (ByteArray.mk #[94])], [(ByteArray.mk #[42]), (ByteArray.mk #[47]), (ByteArray.mk #[37]), (ByteArray.mk #[60, 60]), (ByteArray.mk #[62, 62]), (ByteArray.mk #[38])]]))), (4, (.int .i64 v2))] ∧ L = [] ∧ F122_l0 n v1 v2 = some (r1)) k ⟨Nat.le_refl _, 0, rfl, rfl, h⟩ ?_
  rintro n _ _ ⟨hn, v2, rfl, rfl, h⟩
  cases n with
  | zero => rw [F122_l0] at h; cases h
  | succ k1 =>
    rw [F122_l0] at h
    refine AW_seq ?_
    refine AW_seq ?_
    refine AW_reg ?_
    refine AR_many hT 4 [0, 3, 4, 15] [(0, (.str v1)), (3, (.sl (l50 [[(ByteArray.mk #[124, 124])], [(ByteArray.mk #[38, 38])], [(ByteArray.mk #[61, 61]), (ByteArray.mk #[33, 61]), (ByteArray.mk #[60]), (ByteArray.mk #[60, 61]), (ByteArray.mk #[62]), (ByteArray.mk #[62, 61])], [(ByteArray.mk #[43]), (ByteArray.mk #[45]), (ByteArray.mk #[124]), (ByteArray.mk #[94])], [(ByteArray.mk #[42]), (ByteArray.mk #[47]), (ByteArray.mk #[37]), (ByteArray.mk #[60, 60]), (ByteArray.mk #[62, 62]), (ByteArray.mk #[38])]]))), (4, (.int .i64 v2)), (15, (.bool (decide (v2 < ((l50 [[(ByteArray.mk #[124, 124])], [(ByteArray.mk #[38, 38])], [(ByteArray.mk #[61, 61]), (ByteArray.mk #[33, 61]), (ByteArray.mk #[60]), (ByteArray.mk #[60, 61]), (ByteArray.mk #[62]), (ByteArray.mk #[62, 61])], [(ByteArray.mk #[43]), (ByteArray.mk #[45]), (ByteArray.mk #[124]), (ByteArray.mk #[94])], [(ByteArray.mk #[42]), (ByteArray.mk #[47]), (ByteArray.mk #[37]), (ByteArray.mk #[60, 60]), (ByteArray.mk #[62, 62]), (ByteArray.mk #[38])]]).length : Int)))))] [] (by kernel_rfl) ?_
    refine AR_fin (by kernel_rfl) ?_
    refine AE_seqN ?_
    rcases Bool.eq_false_or_eq_true (decide (v2 < ((l50 [[(ByteArray.mk #[124, 124])], [(ByteArray.mk #[38, 38])], [(ByteArray.mk #[61, 61]), (ByteArray.mk #[33, 61]), (ByteArray.mk #[60]), (ByteArray.mk #[60, 61]), (ByteArray.mk #[62]), (ByteArray.mk #[62, 61])], [(ByteArray.mk #[43]), (ByteArray.mk #[45]), (ByteArray.mk #[124]), (ByteArray.mk #[94])], [(ByteArray.mk #[42]), (ByteArray.mk #[47]), (ByteArray.mk #[37]), (ByteArray.mk #[60, 60]), (ByteArray.mk #[62, 62]), (ByteArray.mk #[38])]]).length : Int))) with h3 | h3
    · replace h := bifT h3 h
      refine AW_ifT (q := (decide (v2 < ((l50 [[(ByteArray.mk #[124, 124])], [(ByteArray.mk #[38, 38])], [(ByteArray.mk #[61, 61]), (ByteArray.mk #[33, 61]), (ByteArray.mk #[60]), (ByteArray.mk #[60, 61]), (ByteArray.mk #[62]), (ByteArray.mk #[62, 61])], [(ByteArray.mk #[43]), (ByteArray.mk #[45]), (ByteArray.mk #[124]), (ByteArray.mk #[94])], [(ByteArray.mk #[42]), (ByteArray.mk #[47]), (ByteArray.mk #[37]), (ByteArray.mk #[60, 60]), (ByteArray.mk #[62, 62]), (ByteArray.mk #[38])]]).length : Int)))) (by kernel_rfl) h3 ?_
      refine AE_skip ?_
      refine AE_seqN ?_
      refine AW_seq ?_
      refine AW_block ?_
      refine AW_seq ?_
      refine AW_reg ?_
      refine AR_many hT 1 [0, 3, 4, 5] [(0, (.str v1)), (3, (.sl (l50 [[(ByteArray.mk #[124, 124])], [(ByteArray.mk #[38, 38])], [(ByteArray.mk #[61, 61]), (ByteArray.mk #[33, 61]), (ByteArray.mk #[60]), (ByteArray.mk #[60, 61]), (ByteArray.mk #[62]), (ByteArray.mk #[62, 61])], [(ByteArray.mk #[43]), (ByteArray.mk #[45]), (ByteArray.mk #[124]), (ByteArray.mk #[94])], [(ByteArray.mk #[42]), (ByteArray.mk #[47]), (ByteArray.mk #[37]), (ByteArray.mk #[60, 60]), (ByteArray.mk #[62, 62]), (ByteArray.mk #[38])]]))), (4, (.int .i64 v2)), (5, (.int .i64 0))] [] (by kernel_rfl) ?_
      refine AR_fin (by kernel_rfl) ?_
      refine AE_seqN ?_
      refine AW_block ?_
      refine AW_keep [0, 3, 4, 5] (env' := [(0, (.str v1)), (3, (.sl (l50 [[(ByteArray.mk #[124, 124])], [(ByteArray.mk #[38, 38])], [(ByteArray.mk #[61, 61]), (ByteArray.mk #[33, 61]), (ByteArray.mk #[60]), (ByteArray.mk #[60, 61]), (ByteArray.mk #[62]), (ByteArray.mk #[62, 61])], [(ByteArray.mk #[43]), (ByteArray.mk #[45]), (ByteArray.mk #[124]), (ByteArray.mk #[94])], [(ByteArray.mk #[42]), (ByteArray.mk #[47]), (ByteArray.mk #[37]), (ByteArray.mk #[60, 60]), (ByteArray.mk #[62, 62]), (ByteArray.mk #[38])]]))), (4, (.int .i64 v2)), (5, (.int .i64 0))]) (by kernel_rfl) ?_
      refine AW_loop (fun n env L => n ≤ k1 ∧ ∃ (v3 : Int), env = [(0, (.str v1)), (3, (.sl (l50 [[(ByteArray.mk #[124, 124])], [(ByteArray.mk #[38, 38])], [(ByteArray.mk #[61, 61]), (ByteArray.mk #[33, 61]), (ByteArray.mk #[60]), (ByteArray.mk #[60, 61]), (ByteArray.mk #[62]), (ByteArray.mk #[62, 61])], [(ByteArray.mk #[43]), (ByteArray.mk #[45]), (ByteArray.mk #[124]), (ByteArray.mk #[94])], [(ByteArray.mk #[42]), (ByteArray.mk #[47]), (ByteArray.mk #[37]), (ByteArray.mk #[60, 60]), (ByteArray.mk #[62, 62]), (ByteArray.mk #[38])]]))), (4, (.int .i64 v2)), (5, (.int .i64 v3))] ∧ L = [] ∧ F122_l1 n v1 v2 v3 = some (r1)) k1 ⟨Nat.le_refl _, 0, rfl, rfl, h⟩ ?_
      rintro n _ _ ⟨hn, v3, rfl, rfl, h⟩
      cases n with
      | zero => rw [F122_l1] at h; cases h
      | succ k4 =>
        rw [F122_l1] at h
        refine AW_seq ?_
        refine AW_seq ?_
        obtain ⟨v4, h6, h⟩ := Option.bind_eq_some_iff.mp h
        try dsimp only at h
        refine AW_reg ?_
        refine AR_many hT 3 [0, 3, 4, 5, 18, 19, 20] [(0, (.str v1)), (3, (.sl (l50 [[(ByteArray.mk #[124, 124])], [(ByteArray.mk #[38, 38])], [(ByteArray.mk #[61, 61]), (ByteArray.mk #[33, 61]), (ByteArray.mk #[60]), (ByteArray.mk #[60, 61]), (ByteArray.mk #[62]), (ByteArray.mk #[62, 61])], [(ByteArray.mk #[43]), (ByteArray.mk #[45]), (ByteArray.mk #[124]), (ByteArray.mk #[94])], [(ByteArray.mk #[42]), (ByteArray.mk #[47]), (ByteArray.mk #[37]), (ByteArray.mk #[60, 60]), (ByteArray.mk #[62, 62]), (ByteArray.mk #[38])]]))), (4, (.int .i64 v2)), (5, (.int .i64 v3)), (18, (.int .i64 v3)), (19, (.sl (l50 [[(ByteArray.mk #[124, 124])], [(ByteArray.mk #[38, 38])], [(ByteArray.mk #[61, 61]), (ByteArray.mk #[33, 61]), (ByteArray.mk #[60]), (ByteArray.mk #[60, 61]), (ByteArray.mk #[62]), (ByteArray.mk #[62, 61])], [(ByteArray.mk #[43]), (ByteArray.mk #[45]), (ByteArray.mk #[124]), (ByteArray.mk #[94])], [(ByteArray.mk #[42]), (ByteArray.mk #[47]), (ByteArray.mk #[37]), (ByteArray.mk #[60, 60]), (ByteArray.mk #[62, 62]), (ByteArray.mk #[38])]]))), (20, (.int .i64 v2))] [] (by kernel_rfl) ?_
        refine AR_op (by kernel_rfl) (OpJ_indexK hT (xs := l50 [[(ByteArray.mk #[124, 124])], [(ByteArray.mk #[38, 38])], [(ByteArray.mk #[61, 61]), (ByteArray.mk #[33, 61]), (ByteArray.mk #[60]), (ByteArray.mk #[60, 61]), (ByteArray.mk #[62]), (ByteArray.mk #[62, 61])], [(ByteArray.mk #[43]), (ByteArray.mk #[45]), (ByteArray.mk #[124]), (ByteArray.mk #[94])], [(ByteArray.mk #[42]), (ByteArray.mk #[47]), (ByteArray.mk #[37]), (ByteArray.mk #[60, 60]), (ByteArray.mk #[62, 62]), (ByteArray.mk #[38])]]) (j := v2) (n := 1) (by kernel_rfl) (i50 h6) (by kernel_rfl)) ?_
        refine AR_many hT 3 [0, 3, 4, 5, 24] [(0, (.str v1)), (3, (.sl (l50 [[(ByteArray.mk #[124, 124])], [(ByteArray.mk #[38, 38])], [(ByteArray.mk #[61, 61]), (ByteArray.mk #[33, 61]), (ByteArray.mk #[60]), (ByteArray.mk #[60, 61]), (ByteArray.mk #[62]), (ByteArray.mk #[62, 61])], [(ByteArray.mk #[43]), (ByteArray.mk #[45]), (ByteArray.mk #[124]), (ByteArray.mk #[94])], [(ByteArray.mk #[42]), (ByteArray.mk #[47]), (ByteArray.mk #[37]), (ByteArray.mk #[60, 60]), (ByteArray.mk #[62, 62]), (ByteArray.mk #[38])]]))), (4, (.int .i64 v2)), (5, (.int .i64 v3)), (24, (.bool (decide (v3 < ((l9 v4).length : Int)))))] [] (by kernel_rfl) ?_
        refine AR_fin (by kernel_rfl) ?_
        refine AE_seqN ?_
        rcases Bool.eq_false_or_eq_true (decide (v3 < ((l9 v4).length : Int))) with h7 | h7
        · replace h := bifT h7 h
          refine AW_ifT (q := (decide (v3 < ((l9 v4).length : Int)))) (by kernel_rfl) h7 ?_
          refine AE_skip ?_
          refine AE_seqN ?_
          refine AW_seq ?_
          refine AW_block ?_
          refine AW_seq ?_
          obtain ⟨v5, h8, h⟩ := Option.bind_eq_some_iff.mp h
          try dsimp only at h
          obtain ⟨v6, h9, h⟩ := Option.bind_eq_some_iff.mp h
          try dsimp only at h
          refine AW_reg ?_
          refine AR_many hT 2 [0, 3, 4, 5, 27, 28] [(0, (.str v1)), (3, (.sl (l50 [[(ByteArray.mk #[124, 124])], [(ByteArray.mk #[38, 38])], [(ByteArray.mk #[61, 61]), (ByteArray.mk #[33, 61]), (ByteArray.mk #[60]), (ByteArray.mk #[60, 61]), (ByteArray.mk #[62]), (ByteArray.mk #[62, 61])], [(ByteArray.mk #[43]), (ByteArray.mk #[45]), (ByteArray.mk #[124]), (ByteArray.mk #[94])], [(ByteArray.mk #[42]), (ByteArray.mk #[47]), (ByteArray.mk #[37]), (ByteArray.mk #[60, 60]), (ByteArray.mk #[62, 62]), (ByteArray.mk #[38])]]))), (4, (.int .i64 v2)), (5, (.int .i64 v3)), (27, (.sl (l50 [[(ByteArray.mk #[124, 124])], [(ByteArray.mk #[38, 38])], [(ByteArray.mk #[61, 61]), (ByteArray.mk #[33, 61]), (ByteArray.mk #[60]), (ByteArray.mk #[60, 61]), (ByteArray.mk #[62]), (ByteArray.mk #[62, 61])], [(ByteArray.mk #[43]), (ByteArray.mk #[45]), (ByteArray.mk #[124]), (ByteArray.mk #[94])], [(ByteArray.mk #[42]), (ByteArray.mk #[47]), (ByteArray.mk #[37]), (ByteArray.mk #[60, 60]), (ByteArray.mk #[62, 62]), (ByteArray.mk #[38])]]))), (28, (.int .i64 v2))] [] (by kernel_rfl) ?_
          refine AR_op (by kernel_rfl) (OpJ_indexK hT (xs := l50 [[(ByteArray.mk #[124, 124])], [(ByteArray.mk #[38, 38])], [(ByteArray.mk #[61, 61]), (ByteArray.mk #[33, 61]), (ByteArray.mk #[60]), (ByteArray.mk #[60, 61]), (ByteArray.mk #[62]), (ByteArray.mk #[62, 61])], [(ByteArray.mk #[43]), (ByteArray.mk #[45]), (ByteArray.mk #[124]), (ByteArray.mk #[94])], [(ByteArray.mk #[42]), (ByteArray.mk #[47]), (ByteArray.mk #[37]), (ByteArray.mk #[60, 60]), (ByteArray.mk #[62, 62]), (ByteArray.mk #[38])]]) (j := v2) (n := 1) (by kernel_rfl) (i50 h8) (by kernel_rfl)) ?_
          refine AR_many hT 2 [0, 3, 4, 5, 30, 31] [(0, (.str v1)), (3, (.sl (l50 [[(ByteArray.mk #[124, 124])], [(ByteArray.mk #[38, 38])], [(ByteArray.mk #[61, 61]), (ByteArray.mk #[33, 61]), (ByteArray.mk #[60]), (ByteArray.mk #[60, 61]), (ByteArray.mk #[62]), (ByteArray.mk #[62, 61])], [(ByteArray.mk #[43]), (ByteArray.mk #[45]), (ByteArray.mk #[124]), (ByteArray.mk #[94])], [(ByteArray.mk #[42]), (ByteArray.mk #[47]), (ByteArray.mk #[37]), (ByteArray.mk #[60, 60]), (ByteArray.mk #[62, 62]), (ByteArray.mk #[38])]]))), (4, (.int .i64 v2)), (5, (.int .i64 v3)), (30, (.sl (l9 v5))), (31, (.int .i64 v3))] [] (by kernel_rfl) ?_
          refine AR_op (by kernel_rfl) (OpJ_indexK hT (xs := l9 v5) (j := v3) (n := 1) (by kernel_rfl) (i9 h9) (by kernel_rfl)) ?_
          refine AR_many hT 3 [0, 3, 4, 5, 35] [(0, (.str v1)), (3, (.sl (l50 [[(ByteArray.mk #[124, 124])], [(ByteArray.mk #[38, 38])], [(ByteArray.mk #[61, 61]), (ByteArray.mk #[33, 61]), (ByteArray.mk #[60]), (ByteArray.mk #[60, 61]), (ByteArray.mk #[62]), (ByteArray.mk #[62, 61])], [(ByteArray.mk #[43]), (ByteArray.mk #[45]), (ByteArray.mk #[124]), (ByteArray.mk #[94])], [(ByteArray.mk #[42]), (ByteArray.mk #[47]), (ByteArray.mk #[37]), (ByteArray.mk #[60, 60]), (ByteArray.mk #[62, 62]), (ByteArray.mk #[38])]]))), (4, (.int .i64 v2)), (5, (.int .i64 v3)), (35, (.bool (v6.toList == v1.toList)))] [] (by kernel_rfl) ?_
          refine AR_fin (by kernel_rfl) ?_
          refine AE_seqN ?_
          rcases Bool.eq_false_or_eq_true (v6.toList == v1.toList) with h10 | h10
          · replace h := bifT h10 h
            refine AW_ifT (q := (v6.toList == v1.toList)) (by kernel_rfl) h10 ?_
            refine AW_seq ?_
            refine AW_reg ?_
            refine AR_many hT 3 [2] [(2, (.int .i64 (IntKind.wrap .i64 (v2 + 1))))] [] (by kernel_rfl) ?_
            refine AR_fin (by kernel_rfl) ?_
            refine AE_seqN ?_
            refine AE_ret ?_
            refine AE_blkR ?_
            refine AE_seqR ?_
            refine AE_seqR ?_
            refine AE_blkR ?_
            refine AE_blkR ?_
            refine AE_seqR ?_
            refine AE_seqR ?_
            refine AE_blkR ?_
            refine AE_seqR ?_
            refine AE_keep [2] (env' := [(2, (.int .i64 (IntKind.wrap .i64 (v2 + 1))))]) (by kernel_rfl) ?_
            simp only [Option.some.injEq] at h
            subst h
            exact AE_done ⟨trivial, by kernel_rfl, by kernel_rfl, by simp [AV.low, AV.lows, AObj.low], by simp [AV.low, AV.lows, AObj.low]⟩
          · replace h := bifF h10 h
            refine AW_ifF (q := (v6.toList == v1.toList)) (by kernel_rfl) h10 ?_
            refine AE_skip ?_
            refine AE_blkN ?_
            refine AE_seqN ?_
            refine AW_reg ?_
            refine AR_many hT 3 [0, 3, 4, 5] [(0, (.str v1)), (3, (.sl (l50 [[(ByteArray.mk #[124, 124])], [(ByteArray.mk #[38, 38])], [(ByteArray.mk #[61, 61]), (ByteArray.mk #[33, 61]), (ByteArray.mk #[60]), (ByteArray.mk #[60, 61]), (ByteArray.mk #[62]), (ByteArray.mk #[62, 61])], [(ByteArray.mk #[43]), (ByteArray.mk #[45]), (ByteArray.mk #[124]), (ByteArray.mk #[94])], [(ByteArray.mk #[42]), (ByteArray.mk #[47]), (ByteArray.mk #[37]), (ByteArray.mk #[60, 60]), (ByteArray.mk #[62, 62]), (ByteArray.mk #[38])]]))), (4, (.int .i64 v2)), (5, (.int .i64 (IntKind.wrap .i64 (v3 + 1))))] [] (by kernel_rfl) ?_
            refine AR_fin (by kernel_rfl) ?_
            refine AE_keep [0, 3, 4, 5] (env' := [(0, (.str v1)), (3, (.sl (l50 [[(ByteArray.mk #[124, 124])], [(ByteArray.mk #[38, 38])], [(ByteArray.mk #[61, 61]), (ByteArray.mk #[33, 61]), (ByteArray.mk #[60]), (ByteArray.mk #[60, 61]), (ByteArray.mk #[62]), (ByteArray.mk #[62, 61])], [(ByteArray.mk #[43]), (ByteArray.mk #[45]), (ByteArray.mk #[124]), (ByteArray.mk #[94])], [(ByteArray.mk #[42]), (ByteArray.mk #[47]), (ByteArray.mk #[37]), (ByteArray.mk #[60, 60]), (ByteArray.mk #[62, 62]), (ByteArray.mk #[38])]]))), (4, (.int .i64 v2)), (5, (.int .i64 (IntKind.wrap .i64 (v3 + 1))))]) (by kernel_rfl) ?_
            exact AE_done ⟨k4, by omega, by omega, (IntKind.wrap .i64 (v3 + 1)), rfl, rfl, h⟩
        · replace h := bifF h7 h
          refine AW_ifF (q := (decide (v3 < ((l9 v4).length : Int)))) (by kernel_rfl) h7 ?_
          refine AE_exit ?_
          refine AE_seqX ?_
          refine AE_seqX ?_
          refine AE_blkH ?_
          refine AE_blkN ?_
          refine AE_seqN ?_
          refine AW_reg ?_
          refine AR_many hT 3 [0, 3, 4] [(0, (.str v1)), (3, (.sl (l50 [[(ByteArray.mk #[124, 124])], [(ByteArray.mk #[38, 38])], [(ByteArray.mk #[61, 61]), (ByteArray.mk #[33, 61]), (ByteArray.mk #[60]), (ByteArray.mk #[60, 61]), (ByteArray.mk #[62]), (ByteArray.mk #[62, 61])], [(ByteArray.mk #[43]), (ByteArray.mk #[45]), (ByteArray.mk #[124]), (ByteArray.mk #[94])], [(ByteArray.mk #[42]), (ByteArray.mk #[47]), (ByteArray.mk #[37]), (ByteArray.mk #[60, 60]), (ByteArray.mk #[62, 62]), (ByteArray.mk #[38])]]))), (4, (.int .i64 (IntKind.wrap .i64 (v2 + 1))))] [] (by kernel_rfl) ?_
          refine AR_fin (by kernel_rfl) ?_
          refine AE_keep [0, 3, 4] (env' := [(0, (.str v1)), (3, (.sl (l50 [[(ByteArray.mk #[124, 124])], [(ByteArray.mk #[38, 38])], [(ByteArray.mk #[61, 61]), (ByteArray.mk #[33, 61]), (ByteArray.mk #[60]), (ByteArray.mk #[60, 61]), (ByteArray.mk #[62]), (ByteArray.mk #[62, 61])], [(ByteArray.mk #[43]), (ByteArray.mk #[45]), (ByteArray.mk #[124]), (ByteArray.mk #[94])], [(ByteArray.mk #[42]), (ByteArray.mk #[47]), (ByteArray.mk #[37]), (ByteArray.mk #[60, 60]), (ByteArray.mk #[62, 62]), (ByteArray.mk #[38])]]))), (4, (.int .i64 (IntKind.wrap .i64 (v2 + 1))))]) (by kernel_rfl) ?_
          exact AE_done ⟨k4, by omega, by omega, (IntKind.wrap .i64 (v2 + 1)), rfl, rfl, h⟩
    · replace h := bifF h3 h
      refine AW_ifF (q := (decide (v2 < ((l50 [[(ByteArray.mk #[124, 124])], [(ByteArray.mk #[38, 38])], [(ByteArray.mk #[61, 61]), (ByteArray.mk #[33, 61]), (ByteArray.mk #[60]), (ByteArray.mk #[60, 61]), (ByteArray.mk #[62]), (ByteArray.mk #[62, 61])], [(ByteArray.mk #[43]), (ByteArray.mk #[45]), (ByteArray.mk #[124]), (ByteArray.mk #[94])], [(ByteArray.mk #[42]), (ByteArray.mk #[47]), (ByteArray.mk #[37]), (ByteArray.mk #[60, 60]), (ByteArray.mk #[62, 62]), (ByteArray.mk #[38])]]).length : Int)))) (by kernel_rfl) h3 ?_
      refine AE_exit ?_
      refine AE_seqX ?_
      refine AE_seqX ?_
      refine AE_blkH ?_
      refine AE_seqN ?_
      refine AW_seq ?_
      refine AW_reg ?_
      refine AR_many hT 1 [2] [(2, (.int .i64 0))] [] (by kernel_rfl) ?_
      refine AR_fin (by kernel_rfl) ?_
      refine AE_seqN ?_
      refine AE_ret ?_
      refine AE_keep [2] (env' := [(2, (.int .i64 0))]) (by kernel_rfl) ?_
      simp only [Option.some.injEq] at h
      subst h
      exact AE_done ⟨trivial, by kernel_rfl, by kernel_rfl, by simp [AV.low, AV.lows, AObj.low], by simp [AV.low, AV.lows, AObj.low]⟩

def F77 (k : Nat) (v1 : Int) : Option (Bool) :=
  (bif (decide (v1 ≥ 97)) then
    some ((decide (v1 ≤ 122)))
  else
    some (false))

theorem F77_ok (k : Nat) : ∀ (v1 : Int) (r1 : Bool), F77 k v1 = some (r1) → Fn prog 77 [(.int .u8 v1)] [] (.bool r1) [] := by
  intro v1 r1 h
  rw [F77] at h
  refine Fn_bodyK hT Go.Proofs.Try.func77 (c := Go.Proofs.Try.f77.body.getD .skip) (by kernel_rfl) (by kernel_rfl) (by kernel_rfl) ?_
  refine AW_seq ?_
  refine AW_reg ?_
  refine AR_many hT 1 [0] [(0, (.int .u8 v1))] [] (by kernel_rfl) ?_
  refine AR_fin (by kernel_rfl) ?_
  refine AE_seqN ?_
  refine AW_seq ?_
  rcases Bool.eq_false_or_eq_true (decide (v1 ≥ 97)) with h1 | h1
  · replace h := bifT h1 h
    refine AW_reg ?_
    refine AR_many hT 2 [0, 4] [(0, (.int .u8 v1)), (4, (.bool (decide (v1 ≥ 97))))] [] (by kernel_rfl) ?_
    refine AR_op (by kernel_rfl) (OpJ_boolK hT (q := (decide (v1 ≥ 97))) (by kernel_rfl) h1) ?_
    refine AR_many hT 4 [2] [(2, (.bool (decide (v1 ≤ 122))))] [] (by kernel_rfl) ?_
    refine AR_fin (by kernel_rfl) ?_
    refine AE_seqN ?_
    refine AE_ret ?_
    refine AE_keep [2] (env' := [(2, (.bool (decide (v1 ≤ 122))))]) (by kernel_rfl) ?_
    simp only [Option.some.injEq] at h
    subst h
    exact AE_done ⟨trivial, by kernel_rfl, by kernel_rfl, by simp [AV.low, AV.lows, AObj.low], by simp [AV.low, AV.lows, AObj.low]⟩
  · replace h := bifF h1 h
    refine AW_reg ?_
    refine AR_many hT 2 [0, 4] [(0, (.int .u8 v1)), (4, (.bool (decide (v1 ≥ 97))))] [] (by kernel_rfl) ?_
    refine AR_op (by kernel_rfl) (OpJ_boolK hT (q := (decide (v1 ≥ 97))) (by kernel_rfl) h1) ?_
    refine AR_many hT 4 [2] [(2, (.bool false))] [] (by kernel_rfl) ?_
    refine AR_fin (by kernel_rfl) ?_
    refine AE_seqN ?_
    refine AE_ret ?_
    refine AE_keep [2] (env' := [(2, (.bool false))]) (by kernel_rfl) ?_
    simp only [Option.some.injEq] at h
    subst h
    exact AE_done ⟨trivial, by kernel_rfl, by kernel_rfl, by simp [AV.low, AV.lows, AObj.low], by simp [AV.low, AV.lows, AObj.low]⟩

def F78 (k : Nat) (v1 : Int) : Option (Bool) :=
  (bif (decide (v1 ≥ 48)) then
    some ((decide (v1 ≤ 57)))
  else
    some (false))

theorem F78_ok (k : Nat) : ∀ (v1 : Int) (r1 : Bool), F78 k v1 = some (r1) → Fn prog 78 [(.int .u8 v1)] [] (.bool r1) [] := by
  intro v1 r1 h
  rw [F78] at h
  refine Fn_bodyK hT Go.Proofs.Try.func78 (c := Go.Proofs.Try.f78.body.getD .skip) (by kernel_rfl) (by kernel_rfl) (by kernel_rfl) ?_
  refine AW_seq ?_
  refine AW_reg ?_
  refine AR_many hT 1 [0] [(0, (.int .u8 v1))] [] (by kernel_rfl) ?_
  refine AR_fin (by kernel_rfl) ?_
  refine AE_seqN ?_
  refine AW_seq ?_
  rcases Bool.eq_false_or_eq_true (decide (v1 ≥ 48)) with h1 | h1
  · replace h := bifT h1 h
    refine AW_reg ?_
    refine AR_many hT 2 [0, 4] [(0, (.int .u8 v1)), (4, (.bool (decide (v1 ≥ 48))))] [] (by kernel_rfl) ?_
    refine AR_op (by kernel_rfl) (OpJ_boolK hT (q := (decide (v1 ≥ 48))) (by kernel_rfl) h1) ?_
    refine AR_many hT 4 [2] [(2, (.bool (decide (v1 ≤ 57))))] [] (by kernel_rfl) ?_
    refine AR_fin (by kernel_rfl) ?_
    refine AE_seqN ?_
    refine AE_ret ?_
    refine AE_keep [2] (env' := [(2, (.bool (decide (v1 ≤ 57))))]) (by kernel_rfl) ?_
    simp only [Option.some.injEq] at h
    subst h
    exact AE_done ⟨trivial, by kernel_rfl, by kernel_rfl, by simp [AV.low, AV.lows, AObj.low], by simp [AV.low, AV.lows, AObj.low]⟩
  · replace h := bifF h1 h
    refine AW_reg ?_
    refine AR_many hT 2 [0, 4] [(0, (.int .u8 v1)), (4, (.bool (decide (v1 ≥ 48))))] [] (by kernel_rfl) ?_
    refine AR_op (by kernel_rfl) (OpJ_boolK hT (q := (decide (v1 ≥ 48))) (by kernel_rfl) h1) ?_
    refine AR_many hT 4 [2] [(2, (.bool false))] [] (by kernel_rfl) ?_
    refine AR_fin (by kernel_rfl) ?_
    refine AE_seqN ?_
    refine AE_ret ?_
    refine AE_keep [2] (env' := [(2, (.bool false))]) (by kernel_rfl) ?_
    simp only [Option.some.injEq] at h
    subst h
    exact AE_done ⟨trivial, by kernel_rfl, by kernel_rfl, by simp [AV.low, AV.lows, AObj.low], by simp [AV.low, AV.lows, AObj.low]⟩

def F79_l0 : Nat → ByteArray → (List ByteArray) → Int → Option (Bool)
  | 0, _, _, _ => none
  | k2 + 1, v1, v2, v3 =>
    (bif (decide (v3 < ((l9 v2).length : Int))) then
      ((idx v2 v3).bind fun v4 =>
        (bif (v4.toList == v1.toList) then
          some (true)
        else
          F79_l0 k2 v1 v2 (IntKind.wrap .i64 (v3 + 1))))
    else
      some (false))

def F79 (k : Nat) (v1 : ByteArray) : Option (Bool) :=
  ((F121 k ).bind fun v2 =>
    F79_l0 k v1 v2 0)

theorem F79_ok (k : Nat) : ∀ (v1 : ByteArray) (r1 : Bool), F79 k v1 = some (r1) → Fn prog 79 [(.str v1)] [] (.bool r1) [] := by
  intro v1 r1 h
  rw [F79] at h
  refine Fn_bodyK hT Go.Proofs.Try.func79 (c := Go.Proofs.Try.f79.body.getD .skip) (by kernel_rfl) (by kernel_rfl) (by kernel_rfl) ?_
  refine AW_seq ?_
  refine AW_reg ?_
  refine AR_many hT 1 [0] [(0, (.str v1))] [] (by kernel_rfl) ?_
  refine AR_fin (by kernel_rfl) ?_
  refine AE_seqN ?_
  refine AW_seq ?_
  obtain ⟨v2, h1, h⟩ := Option.bind_eq_some_iff.mp h
  try dsimp only at h
  refine AW_reg ?_
  refine AR_op (by kernel_rfl) (OpJ_callK (g := 121) (args := []) (by kernel_rfl) Go.Proofs.Try.func121 (by kernel_rfl) (by kernel_rfl) (Fn_pure (F121_ok k  v2 h1) (by simp [AV.low, AV.lows, AObj.low]) (by simp [AV.low, AV.lows, AObj.low]))) ?_
  refine AR_many hT 1 [0, 3] [(0, (.str v1)), (3, (.sl (l9 v2)))] [] (by kernel_rfl) ?_
  refine AR_fin (by kernel_rfl) ?_
  refine AE_seqN ?_
  refine AW_seq ?_
  refine AW_seq ?_
  refine AW_reg ?_
  refine AR_many hT 1 [0, 3, 4] [(0, (.str v1)), (3, (.sl (l9 v2))), (4, (.int .i64 0))] [] (by kernel_rfl) ?_
  refine AR_fin (by kernel_rfl) ?_
  refine AE_seqN ?_
  refine AW_block ?_
  refine AW_keep [0, 3, 4] (env' := [(0, (.str v1)), (3, (.sl (l9 v2))), (4, (.int .i64 0))]) (by kernel_rfl) ?_
  refine AW_loop (fun n env L => n ≤ k ∧ ∃ (v3 : Int), env = [(0, (.str v1)), (3, (.sl (l9 v2))), (4, (.int .i64 v3))] ∧ L = [] ∧ F79_l0 n v1 v2 v3 = some (r1)) k ⟨Nat.le_refl _, 0, rfl, rfl, h⟩ ?_
  rintro n _ _ ⟨hn, v3, rfl, rfl, h⟩
  cases n with
  | zero => rw [F79_l0] at h; cases h
  | succ k2 =>
    rw [F79_l0] at h
    refine AW_seq ?_
    refine AW_seq ?_
    refine AW_reg ?_
    refine AR_many hT 4 [0, 3, 4, 9] [(0, (.str v1)), (3, (.sl (l9 v2))), (4, (.int .i64 v3)), (9, (.bool (decide (v3 < ((l9 v2).length : Int)))))] [] (by kernel_rfl) ?_
    refine AR_fin (by kernel_rfl) ?_
    refine AE_seqN ?_
    rcases Bool.eq_false_or_eq_true (decide (v3 < ((l9 v2).length : Int))) with h4 | h4
    · replace h := bifT h4 h
      refine AW_ifT (q := (decide (v3 < ((l9 v2).length : Int)))) (by kernel_rfl) h4 ?_
      refine AE_skip ?_
      refine AE_seqN ?_
      refine AW_seq ?_
      refine AW_block ?_
      refine AW_seq ?_
      obtain ⟨v4, h5, h⟩ := Option.bind_eq_some_iff.mp h
      try dsimp only at h
      refine AW_reg ?_
      refine AR_many hT 2 [0, 3, 4, 12, 13] [(0, (.str v1)), (3, (.sl (l9 v2))), (4, (.int .i64 v3)), (12, (.sl (l9 v2))), (13, (.int .i64 v3))] [] (by kernel_rfl) ?_
      refine AR_op (by kernel_rfl) (OpJ_indexK hT (xs := l9 v2) (j := v3) (n := 1) (by kernel_rfl) (i9 h5) (by kernel_rfl)) ?_
      refine AR_many hT 3 [0, 3, 4, 17] [(0, (.str v1)), (3, (.sl (l9 v2))), (4, (.int .i64 v3)), (17, (.bool (v4.toList == v1.toList)))] [] (by kernel_rfl) ?_
      refine AR_fin (by kernel_rfl) ?_
      refine AE_seqN ?_
      rcases Bool.eq_false_or_eq_true (v4.toList == v1.toList) with h6 | h6
      · replace h := bifT h6 h
        refine AW_ifT (q := (v4.toList == v1.toList)) (by kernel_rfl) h6 ?_
        refine AW_seq ?_
        refine AW_reg ?_
        refine AR_many hT 1 [2] [(2, (.bool true))] [] (by kernel_rfl) ?_
        refine AR_fin (by kernel_rfl) ?_
        refine AE_seqN ?_
        refine AE_ret ?_
        refine AE_blkR ?_
        refine AE_seqR ?_
        refine AE_seqR ?_
        refine AE_blkR ?_
        refine AE_seqR ?_
        refine AE_keep [2] (env' := [(2, (.bool true))]) (by kernel_rfl) ?_
        simp only [Option.some.injEq] at h
        subst h
        exact AE_done ⟨trivial, by kernel_rfl, by kernel_rfl, by simp [AV.low, AV.lows, AObj.low], by simp [AV.low, AV.lows, AObj.low]⟩
      · replace h := bifF h6 h
        refine AW_ifF (q := (v4.toList == v1.toList)) (by kernel_rfl) h6 ?_
        refine AE_skip ?_
        refine AE_blkN ?_
        refine AE_seqN ?_
        refine AW_reg ?_
        refine AR_many hT 3 [0, 3, 4] [(0, (.str v1)), (3, (.sl (l9 v2))), (4, (.int .i64 (IntKind.wrap .i64 (v3 + 1))))] [] (by kernel_rfl) ?_
        refine AR_fin (by kernel_rfl) ?_
        refine AE_keep [0, 3, 4] (env' := [(0, (.str v1)), (3, (.sl (l9 v2))), (4, (.int .i64 (IntKind.wrap .i64 (v3 + 1))))]) (by kernel_rfl) ?_
        exact AE_done ⟨k2, by omega, by omega, (IntKind.wrap .i64 (v3 + 1)), rfl, rfl, h⟩
    · replace h := bifF h4 h
      refine AW_ifF (q := (decide (v3 < ((l9 v2).length : Int)))) (by kernel_rfl) h4 ?_
      refine AE_exit ?_
      refine AE_seqX ?_
      refine AE_seqX ?_
      refine AE_blkH ?_
      refine AE_seqN ?_
      refine AW_seq ?_
      refine AW_reg ?_
      refine AR_many hT 1 [2] [(2, (.bool false))] [] (by kernel_rfl) ?_
      refine AR_fin (by kernel_rfl) ?_
      refine AE_seqN ?_
      refine AE_ret ?_
      refine AE_keep [2] (env' := [(2, (.bool false))]) (by kernel_rfl) ?_
      simp only [Option.some.injEq] at h
      subst h
      exact AE_done ⟨trivial, by kernel_rfl, by kernel_rfl, by simp [AV.low, AV.lows, AObj.low], by simp [AV.low, AV.lows, AObj.low]⟩

mutual
def F38_j1 : Nat → ByteArray → Int → Bool → Option (Bool)
  | 0, _, _, _ => none
  | k10 + 1, v1, v3, v4 =>
    (bif v4 then
      some (false)
    else
      F38_l0 k10 v1 (IntKind.wrap .i64 (v3 + 1)))
def F38_l0 : Nat → ByteArray → Int → Option (Bool)
  | 0, _, _ => none
  | k1 + 1, v1, v2 =>
    (bif (decide (v2 < (v1.size : Int))) then
      ((bidx v1 v2).bind fun v5 =>
        ((F77 k1 v5).bind fun v6 =>
          (bif (!v6) then
            (bif (v2 == 0) then
              F38_j1 k1 v1 v2 true
            else
              ((bidx v1 v2).bind fun v7 =>
                ((F78 k1 v7).bind fun v8 =>
                  F38_j1 k1 v1 v2 (!v8))))
          else
            F38_j1 k1 v1 v2 false)))
    else
      (bif (decide ((v1.size : Int) ≥ 1)) then
        (bif (decide ((v1.size : Int) ≤ 12)) then
          ((F79 k1 v1).bind fun v9 =>
            some ((!v9)))
        else
          some (false))
      else
        some (false)))
end

def F38 (k : Nat) (v1 : ByteArray) : Option (Bool) :=
  F38_l0 k v1 0

theorem F38_ok (k : Nat) : ∀ (v1 : ByteArray) (r1 : Bool), F38 k v1 = some (r1) → Fn prog 38 [(.str v1)] [] (.bool r1) [] := by
  intro v1 r1 h
  rw [F38] at h
  refine Fn_bodyK hT Go.Proofs.Try.func38 (c := Go.Proofs.Try.f38.body.getD .skip) (by kernel_rfl) (by kernel_rfl) (by kernel_rfl) ?_
  refine AW_seq ?_
  refine AW_reg ?_
  refine AR_many hT 1 [0] [(0, (.str v1))] [] (by kernel_rfl) ?_
  refine AR_fin (by kernel_rfl) ?_
  refine AE_seqN ?_
  refine AW_seq ?_
  refine AW_seq ?_
  refine AW_reg ?_
  refine AR_many hT 1 [0, 3] [(0, (.str v1)), (3, (.int .i64 0))] [] (by kernel_rfl) ?_
  refine AR_fin (by kernel_rfl) ?_
  refine AE_seqN ?_
  refine AW_block ?_
  refine AW_keep [0, 3] (env' := [(0, (.str v1)), (3, (.int .i64 0))]) (by kernel_rfl) ?_
  refine AW_loop (fun n env L => n ≤ k ∧ ∃ (v2 : Int), env = [(0, (.str v1)), (3, (.int .i64 v2))] ∧ L = [] ∧ F38_l0 n v1 v2 = some (r1)) k ⟨Nat.le_refl _, 0, rfl, rfl, h⟩ ?_
  rintro n _ _ ⟨hn, v2, rfl, rfl, h⟩
  cases n with
  | zero => rw [F38_l0] at h; cases h
  | succ k1 =>
    rw [F38_l0] at h
    refine AW_seq ?_
    refine AW_seq ?_
    refine AW_reg ?_
    refine AR_many hT 4 [0, 3, 7] [(0, (.str v1)), (3, (.int .i64 v2)), (7, (.bool (decide (v2 < (v1.size : Int)))))] [] (by kernel_rfl) ?_
    refine AR_fin (by kernel_rfl) ?_
    refine AE_seqN ?_
    rcases Bool.eq_false_or_eq_true (decide (v2 < (v1.size : Int))) with h3 | h3
    · replace h := bifT h3 h
      refine AW_ifT (q := (decide (v2 < (v1.size : Int)))) (by kernel_rfl) h3 ?_
      refine AE_skip ?_
      refine AE_seqN ?_
      refine AW_seq ?_
      refine AW_block ?_
      refine AW_join (fun env L => ∃ (v3 : Int) (v4 : Bool), env = [(0, (.str v1)), (3, (.int .i64 v3)), (25, (.bool v4))] ∧ L = [] ∧ ∃ n, n ≤ k1 ∧ F38_j1 n v1 v3 v4 = some (r1)) ?_ ?_
      · obtain ⟨v5, h4, h⟩ := Option.bind_eq_some_iff.mp h
        try dsimp only at h
        obtain ⟨v6, h5, h⟩ := Option.bind_eq_some_iff.mp h
        try dsimp only at h
        rcases Bool.eq_false_or_eq_true (!v6) with h6 | h6
        · replace h := bifT h6 h
          rcases Bool.eq_false_or_eq_true (v2 == 0) with h7 | h7
          · replace h := bifT h7 h
            refine AW_reg ?_
            refine AR_many hT 2 [0, 3, 10, 11] [(0, (.str v1)), (3, (.int .i64 v2)), (10, (.str v1)), (11, (.int .i64 v2))] [] (by kernel_rfl) ?_
            refine AR_op (by kernel_rfl) (OpJ_byteK hT (s := v1) (j := v2) (by kernel_rfl) h4) ?_
            refine AR_op (by kernel_rfl) (OpJ_callK (g := 77) (args := [(.int .u8 v5)]) (by kernel_rfl) Go.Proofs.Try.func77 (by kernel_rfl) (by kernel_rfl) (Fn_pure (F77_ok k1 v5 v6 h5) (by simp [AV.low, AV.lows, AObj.low]) (by simp [AV.low, AV.lows, AObj.low]))) ?_
            refine AR_many hT 1 [0, 3, 14] [(0, (.str v1)), (3, (.int .i64 v2)), (14, (.bool (!v6)))] [] (by kernel_rfl) ?_
            refine AR_op (by kernel_rfl) (OpJ_boolK hT (q := (!v6)) (by kernel_rfl) h6) ?_
            refine AR_many hT 2 [0, 3, 15, 17] [(0, (.str v1)), (3, (.int .i64 v2)), (15, (.bool true)), (17, (.bool (v2 == 0)))] [] (by kernel_rfl) ?_
            refine AR_op (by kernel_rfl) (OpJ_boolK hT (q := (v2 == 0)) (by kernel_rfl) h7) ?_
            refine AR_many hT 7 [0, 3, 25] [(0, (.str v1)), (3, (.int .i64 v2)), (25, (.bool true))] [] (by kernel_rfl) ?_
            refine AR_fin (by kernel_rfl) ?_
            refine AE_keep [0, 3, 25] (env' := [(0, (.str v1)), (3, (.int .i64 v2)), (25, (.bool true))]) (by kernel_rfl) ?_
            exact AE_done ⟨v2, true, rfl, rfl, k1, Nat.le_refl _, h⟩
          · replace h := bifF h7 h
            obtain ⟨v7, h8, h⟩ := Option.bind_eq_some_iff.mp h
            try dsimp only at h
            obtain ⟨v8, h9, h⟩ := Option.bind_eq_some_iff.mp h
            try dsimp only at h
            refine AW_reg ?_
            refine AR_many hT 2 [0, 3, 10, 11] [(0, (.str v1)), (3, (.int .i64 v2)), (10, (.str v1)), (11, (.int .i64 v2))] [] (by kernel_rfl) ?_
            refine AR_op (by kernel_rfl) (OpJ_byteK hT (s := v1) (j := v2) (by kernel_rfl) h4) ?_
            refine AR_op (by kernel_rfl) (OpJ_callK (g := 77) (args := [(.int .u8 v5)]) (by kernel_rfl) Go.Proofs.Try.func77 (by kernel_rfl) (by kernel_rfl) (Fn_pure (F77_ok k1 v5 v6 h5) (by simp [AV.low, AV.lows, AObj.low]) (by simp [AV.low, AV.lows, AObj.low]))) ?_
            refine AR_many hT 1 [0, 3, 14] [(0, (.str v1)), (3, (.int .i64 v2)), (14, (.bool (!v6)))] [] (by kernel_rfl) ?_
            refine AR_op (by kernel_rfl) (OpJ_boolK hT (q := (!v6)) (by kernel_rfl) h6) ?_
            refine AR_many hT 2 [0, 3, 15, 17] [(0, (.str v1)), (3, (.int .i64 v2)), (15, (.bool true)), (17, (.bool (v2 == 0)))] [] (by kernel_rfl) ?_
            refine AR_op (by kernel_rfl) (OpJ_boolK hT (q := (v2 == 0)) (by kernel_rfl) h7) ?_
            refine AR_many hT 2 [0, 3, 15, 18, 19, 20] [(0, (.str v1)), (3, (.int .i64 v2)), (15, (.bool true)), (18, (.bool false)), (19, (.str v1)), (20, (.int .i64 v2))] [] (by kernel_rfl) ?_
            refine AR_op (by kernel_rfl) (OpJ_byteK hT (s := v1) (j := v2) (by kernel_rfl) h8) ?_
            refine AR_op (by kernel_rfl) (OpJ_callK (g := 78) (args := [(.int .u8 v7)]) (by kernel_rfl) Go.Proofs.Try.func78 (by kernel_rfl) (by kernel_rfl) (Fn_pure (F78_ok k1 v7 v8 h9) (by simp [AV.low, AV.lows, AObj.low]) (by simp [AV.low, AV.lows, AObj.low]))) ?_
            refine AR_many hT 3 [0, 3, 25] [(0, (.str v1)), (3, (.int .i64 v2)), (25, (.bool (!v8)))] [] (by kernel_rfl) ?_
            refine AR_fin (by kernel_rfl) ?_
            refine AE_keep [0, 3, 25] (env' := [(0, (.str v1)), (3, (.int .i64 v2)), (25, (.bool (!v8)))]) (by kernel_rfl) ?_
            exact AE_done ⟨v2, (!v8), rfl, rfl, k1, Nat.le_refl _, h⟩
        · replace h := bifF h6 h
          refine AW_reg ?_
          refine AR_many hT 2 [0, 3, 10, 11] [(0, (.str v1)), (3, (.int .i64 v2)), (10, (.str v1)), (11, (.int .i64 v2))] [] (by kernel_rfl) ?_
          refine AR_op (by kernel_rfl) (OpJ_byteK hT (s := v1) (j := v2) (by kernel_rfl) h4) ?_
          refine AR_op (by kernel_rfl) (OpJ_callK (g := 77) (args := [(.int .u8 v5)]) (by kernel_rfl) Go.Proofs.Try.func77 (by kernel_rfl) (by kernel_rfl) (Fn_pure (F77_ok k1 v5 v6 h5) (by simp [AV.low, AV.lows, AObj.low]) (by simp [AV.low, AV.lows, AObj.low]))) ?_
          refine AR_many hT 1 [0, 3, 14] [(0, (.str v1)), (3, (.int .i64 v2)), (14, (.bool (!v6)))] [] (by kernel_rfl) ?_
          refine AR_op (by kernel_rfl) (OpJ_boolK hT (q := (!v6)) (by kernel_rfl) h6) ?_
          refine AR_many hT 10 [0, 3, 25] [(0, (.str v1)), (3, (.int .i64 v2)), (25, (.bool false))] [] (by kernel_rfl) ?_
          refine AR_fin (by kernel_rfl) ?_
          refine AE_keep [0, 3, 25] (env' := [(0, (.str v1)), (3, (.int .i64 v2)), (25, (.bool false))]) (by kernel_rfl) ?_
          exact AE_done ⟨v2, false, rfl, rfl, k1, Nat.le_refl _, h⟩
      · rintro _ _ ⟨v3, v4, rfl, rfl, n, hn, h⟩
        obtain _ | k10 := n
        · rw [F38_j1] at h; cases h
        rw [F38_j1] at h
        rcases Bool.eq_false_or_eq_true v4 with h12 | h12
        · replace h := bifT h12 h
          refine AW_ifT (q := v4) (by kernel_rfl) h12 ?_
          refine AW_seq ?_
          refine AW_reg ?_
          refine AR_many hT 1 [2] [(2, (.bool false))] [] (by kernel_rfl) ?_
          refine AR_fin (by kernel_rfl) ?_
          refine AE_seqN ?_
          refine AE_ret ?_
          refine AE_blkR ?_
          refine AE_seqR ?_
          refine AE_seqR ?_
          refine AE_blkR ?_
          refine AE_seqR ?_
          refine AE_keep [2] (env' := [(2, (.bool false))]) (by kernel_rfl) ?_
          simp only [Option.some.injEq] at h
          subst h
          exact AE_done ⟨trivial, by kernel_rfl, by kernel_rfl, by simp [AV.low, AV.lows, AObj.low], by simp [AV.low, AV.lows, AObj.low]⟩
        · replace h := bifF h12 h
          refine AW_ifF (q := v4) (by kernel_rfl) h12 ?_
          refine AE_skip ?_
          refine AE_blkN ?_
          refine AE_seqN ?_
          refine AW_reg ?_
          refine AR_many hT 3 [0, 3] [(0, (.str v1)), (3, (.int .i64 (IntKind.wrap .i64 (v3 + 1))))] [] (by kernel_rfl) ?_
          refine AR_fin (by kernel_rfl) ?_
          refine AE_keep [0, 3] (env' := [(0, (.str v1)), (3, (.int .i64 (IntKind.wrap .i64 (v3 + 1))))]) (by kernel_rfl) ?_
          exact AE_done ⟨k10, by omega, by omega, (IntKind.wrap .i64 (v3 + 1)), rfl, rfl, h⟩
    · replace h := bifF h3 h
      refine AW_ifF (q := (decide (v2 < (v1.size : Int)))) (by kernel_rfl) h3 ?_
      refine AE_exit ?_
      refine AE_seqX ?_
      refine AE_seqX ?_
      refine AE_blkH ?_
      refine AE_seqN ?_
      refine AW_seq ?_
      rcases Bool.eq_false_or_eq_true (decide ((v1.size : Int) ≥ 1)) with h13 | h13
      · replace h := bifT h13 h
        rcases Bool.eq_false_or_eq_true (decide ((v1.size : Int) ≤ 12)) with h14 | h14
        · replace h := bifT h14 h
          obtain ⟨v9, h15, h⟩ := Option.bind_eq_some_iff.mp h
          try dsimp only at h
          refine AW_reg ?_
          refine AR_many hT 3 [0, 28] [(0, (.str v1)), (28, (.bool (decide ((v1.size : Int) ≥ 1))))] [] (by kernel_rfl) ?_
          refine AR_op (by kernel_rfl) (OpJ_boolK hT (q := (decide ((v1.size : Int) ≥ 1))) (by kernel_rfl) h13) ?_
          refine AR_many hT 4 [0, 33] [(0, (.str v1)), (33, (.bool (decide ((v1.size : Int) ≤ 12))))] [] (by kernel_rfl) ?_
          refine AR_op (by kernel_rfl) (OpJ_boolK hT (q := (decide ((v1.size : Int) ≤ 12))) (by kernel_rfl) h14) ?_
          refine AR_many hT 1 [34, 35] [(34, (.bool true)), (35, (.str v1))] [] (by kernel_rfl) ?_
          refine AR_op (by kernel_rfl) (OpJ_callK (g := 79) (args := [(.str v1)]) (by kernel_rfl) Go.Proofs.Try.func79 (by kernel_rfl) (by kernel_rfl) (Fn_pure (F79_ok k1 v1 v9 h15) (by simp [AV.low, AV.lows, AObj.low]) (by simp [AV.low, AV.lows, AObj.low]))) ?_
          refine AR_many hT 3 [2] [(2, (.bool (!v9)))] [] (by kernel_rfl) ?_
          refine AR_fin (by kernel_rfl) ?_
          refine AE_seqN ?_
          refine AE_ret ?_
          refine AE_keep [2] (env' := [(2, (.bool (!v9)))]) (by kernel_rfl) ?_
          simp only [Option.some.injEq] at h
          subst h
          exact AE_done ⟨trivial, by kernel_rfl, by kernel_rfl, by simp [AV.low, AV.lows, AObj.low], by simp [AV.low, AV.lows, AObj.low]⟩
        · replace h := bifF h14 h
          refine AW_reg ?_
          refine AR_many hT 3 [0, 28] [(0, (.str v1)), (28, (.bool (decide ((v1.size : Int) ≥ 1))))] [] (by kernel_rfl) ?_
          refine AR_op (by kernel_rfl) (OpJ_boolK hT (q := (decide ((v1.size : Int) ≥ 1))) (by kernel_rfl) h13) ?_
          refine AR_many hT 4 [0, 33] [(0, (.str v1)), (33, (.bool (decide ((v1.size : Int) ≤ 12))))] [] (by kernel_rfl) ?_
          refine AR_op (by kernel_rfl) (OpJ_boolK hT (q := (decide ((v1.size : Int) ≤ 12))) (by kernel_rfl) h14) ?_
          refine AR_many hT 5 [2] [(2, (.bool false))] [] (by kernel_rfl) ?_
          refine AR_fin (by kernel_rfl) ?_
          refine AE_seqN ?_
          refine AE_ret ?_
          refine AE_keep [2] (env' := [(2, (.bool false))]) (by kernel_rfl) ?_
          simp only [Option.some.injEq] at h
          subst h
          exact AE_done ⟨trivial, by kernel_rfl, by kernel_rfl, by simp [AV.low, AV.lows, AObj.low], by simp [AV.low, AV.lows, AObj.low]⟩
      · replace h := bifF h13 h
        refine AW_reg ?_
        refine AR_many hT 3 [0, 28] [(0, (.str v1)), (28, (.bool (decide ((v1.size : Int) ≥ 1))))] [] (by kernel_rfl) ?_
        refine AR_op (by kernel_rfl) (OpJ_boolK hT (q := (decide ((v1.size : Int) ≥ 1))) (by kernel_rfl) h13) ?_
        refine AR_many hT 10 [2] [(2, (.bool false))] [] (by kernel_rfl) ?_
        refine AR_fin (by kernel_rfl) ?_
        refine AE_seqN ?_
        refine AE_ret ?_
        refine AE_keep [2] (env' := [(2, (.bool false))]) (by kernel_rfl) ?_
        simp only [Option.some.injEq] at h
        subst h
        exact AE_done ⟨trivial, by kernel_rfl, by kernel_rfl, by simp [AV.low, AV.lows, AObj.low], by simp [AV.low, AV.lows, AObj.low]⟩

def F80 (k : Nat) : Option ((List T119)) :=
  some ([(T119.mk 0 0 0 0 0), (T119.mk 0 1 1 0 0), (T119.mk 1 1 0 0 0), (T119.mk 1 0 1 0 0), (T119.mk 1 1 0 0 0), (T119.mk 1 0 1 0 0), (T119.mk 1 1 1 0 0), (T119.mk 1 1 2 0 0), (T119.mk 1 0 0 1 0), (T119.mk 1 0 1 0 0), (T119.mk 1 1 0 0 0), (T119.mk 1 0 0 0 0), (T119.mk 0 0 1 1 1), (T119.mk 1 0 1 1 0), (T119.mk 1 0 0 0 0), (T119.mk 1 0 0 0 0), (T119.mk 0 0 1 0 0)])

theorem F80_ok (k : Nat) : ∀  (r1 : (List T119)), F80 k = some (r1) → Fn prog 80 [] [] (.sl (l119 r1)) [] := by
  intro r1 h
  rw [F80] at h
  refine Fn_bodyK hT Go.Proofs.Try.func80 (c := Go.Proofs.Try.f80.body.getD .skip) (by kernel_rfl) (by kernel_rfl) (by kernel_rfl) ?_
  refine AW_seq ?_
  refine AW_reg ?_
  refine AR_many hT 1 [] [] [] (by kernel_rfl) ?_
  refine AR_fin (by kernel_rfl) ?_
  refine AE_seqN ?_
  refine AW_seq ?_
  refine AW_reg ?_
  refine AR_many hT 17 [1, 2, 3, 4, 5, 6, 7, 8, 9, 10, 11, 12, 13, 14, 15, 16, 17] [(1, (.agg [(.int .i64 0), (.int .i64 0), (.int .i64 0), (.int .i64 0), (.int .i64 0)])), (2, (.agg [(.int .i64 0), (.int .i64 1), (.int .i64 1), (.int .i64 0), (.int .i64 0)])), (3, (.agg [(.int .i64 1), (.int .i64 1), (.int .i64 0), (.int .i64 0), (.int .i64 0)])), (4, (.agg [(.int .i64 1), (.int .i64 0), (.int .i64 1), (.int .i64 0), (.int .i64 0)])), (5, (.agg [(.int .i64 1), (.int .i64 1), (.int .i64 0), (.int .i64 0), (.int .i64 0)])), (6, (.agg [(.int .i64 1), (.int .i64 0), (.int .i64 1), (.int .i64 0), (.int .i64 0)])), (7, (.agg [(.int .i64 1), (.int .i64 1), (.int .i64 1), (.int .i64 0), (.int .i64 0)])), (8, (.agg [(.int .i64 1), (.int .i64 1), (.int .i64 2), (.int .i64 0), (.int .i64 0)])), (9, (.agg [(.int .i64 1), (.int .i64 0), (.int .i64 0), (.int .i64 1), (.int .i64 0)])), (10, (.agg [(.int .i64 1), (.int .i64 0), (.int .i64 1), (.int .i64 0), (.int .i64 0)])), (11, (.agg [(.int .i64 1), (.int .i64 1), (.int .i64 0), (.int .i64 0), (.int .i64 0)])), (12, (.agg [(.int .i64 1), (.int .i64 0), (.int .i64 0), (.int .i64 0), (.int .i64 0)])), (13, (.agg [(.int .i64 0), (.int .i64 0), (.int .i64 1), (.int .i64 1), (.int .i64 1)])), (14, (.agg [(.int .i64 1), (.int .i64 0), (.int .i64 1), (.int .i64 1), (.int .i64 0)])), (15, (.agg [(.int .i64 1), (.int .i64 0), (.int .i64 0), (.int .i64 0), (.int .i64 0)])), (16, (.agg [(.int .i64 1), (.int .i64 0), (.int .i64 0), (.int .i64 0), (.int .i64 0)])), (17, (.agg [(.int .i64 0), (.int .i64 0), (.int .i64 1), (.int .i64 0), (.int .i64 0)]))] [] (by kernel_rfl) ?_
  refine AR_op (by kernel_rfl) (OpJ_builtK hT (e := 119) (k := 5) (xs := [(.agg [(.int .i64 0), (.int .i64 0), (.int .i64 0), (.int .i64 0), (.int .i64 0)]), (.agg [(.int .i64 0), (.int .i64 1), (.int .i64 1), (.int .i64 0), (.int .i64 0)]), (.agg [(.int .i64 1), (.int .i64 1), (.int .i64 0), (.int .i64 0), (.int .i64 0)]), (.agg [(.int .i64 1), (.int .i64 0), (.int .i64 1), (.int .i64 0), (.int .i64 0)]), (.agg [(.int .i64 1), (.int .i64 1), (.int .i64 0), (.int .i64 0), (.int .i64 0)]), (.agg [(.int .i64 1), (.int .i64 0), (.int .i64 1), (.int .i64 0), (.int .i64 0)]), (.agg [(.int .i64 1), (.int .i64 1), (.int .i64 1), (.int .i64 0), (.int .i64 0)]), (.agg [(.int .i64 1), (.int .i64 1), (.int .i64 2), (.int .i64 0), (.int .i64 0)]), (.agg [(.int .i64 1), (.int .i64 0), (.int .i64 0), (.int .i64 1), (.int .i64 0)]), (.agg [(.int .i64 1), (.int .i64 0), (.int .i64 1), (.int .i64 0), (.int .i64 0)]), (.agg [(.int .i64 1), (.int .i64 1), (.int .i64 0), (.int .i64 0), (.int .i64 0)]), (.agg [(.int .i64 1), (.int .i64 0), (.int .i64 0), (.int .i64 0), (.int .i64 0)]), (.agg [(.int .i64 0), (.int .i64 0), (.int .i64 1), (.int .i64 1), (.int .i64 1)]), (.agg [(.int .i64 1), (.int .i64 0), (.int .i64 1), (.int .i64 1), (.int .i64 0)]), (.agg [(.int .i64 1), (.int .i64 0), (.int .i64 0), (.int .i64 0), (.int .i64 0)]), (.agg [(.int .i64 1), (.int .i64 0), (.int .i64 0), (.int .i64 0), (.int .i64 0)]), (.agg [(.int .i64 0), (.int .i64 0), (.int .i64 1), (.int .i64 0), (.int .i64 0)])]) 0 (by kernel_rfl) (by kernel_rfl) (by simp [AV.low, AV.lows, AObj.low]) (by simp [AV.low, AV.lows, AObj.low])) ?_
  refine AR_many hT 1 [0] [(0, (.sl (l119 [(T119.mk 0 0 0 0 0), (T119.mk 0 1 1 0 0), (T119.mk 1 1 0 0 0), (T119.mk 1 0 1 0 0), (T119.mk 1 1 0 0 0), (T119.mk 1 0 1 0 0), (T119.mk 1 1 1 0 0), (T119.mk 1 1 2 0 0), (T119.mk 1 0 0 1 0), (T119.mk 1 0 1 0 0), (T119.mk 1 1 0 0 0), (T119.mk 1 0 0 0 0), (T119.mk 0 0 1 1 1), (T119.mk 1 0 1 1 0), (T119.mk 1 0 0 0 0), (T119.mk 1 0 0 0 0), (T119.mk 0 0 1 0 0)])))] [] (by kernel_rfl) ?_
  refine AR_fin (by kernel_rfl) ?_
  refine AE_seqN ?_
  refine AE_ret ?_
  refine AE_keep [0] (env' := [(0, (.sl (l119 [(T119.mk 0 0 0 0 0), (T119.mk 0 1 1 0 0), (T119.mk 1 1 0 0 0), (T119.mk 1 0 1 0 0), (T119.mk 1 1 0 0 0), (T119.mk 1 0 1 0 0), (T119.mk 1 1 1 0 0), (T119.mk 1 1 2 0 0), (T119.mk 1 0 0 1 0), (T119.mk 1 0 1 0 0), (T119.mk 1 1 0 0 0), (T119.mk 1 0 0 0 0), (T119.mk 0 0 1 1 1), (T119.mk 1 0 1 1 0), (T119.mk 1 0 0 0 0), (T119.mk 1 0 0 0 0), (T119.mk 0 0 1 0 0)])))]) (by kernel_rfl) ?_
  simp only [Option.some.injEq] at h
  subst h
  exact AE_done ⟨trivial, by kernel_rfl, by kernel_rfl, by simp [AV.low, AV.lows, AObj.low], by simp [AV.low, AV.lows, AObj.low]⟩

def F81 (k : Nat) (v1 : ByteArray) (v2 : Int) : Option (Bool) :=
  (bif (v2 == 1) then
    ((F38 k v1).bind fun v3 =>
      some (v3))
  else
    some ((v1.toList == (ByteArray.mk #[]).toList)))

theorem F81_ok (k : Nat) : ∀ (v1 : ByteArray) (v2 : Int) (r1 : Bool), F81 k v1 v2 = some (r1) → Fn prog 81 [(.str v1), (.int .i64 v2)] [] (.bool r1) [] := by
  intro v1 v2 r1 h
  rw [F81] at h
  refine Fn_bodyK hT Go.Proofs.Try.func81 (c := Go.Proofs.Try.f81.body.getD .skip) (by kernel_rfl) (by kernel_rfl) (by kernel_rfl) ?_
  refine AW_seq ?_
  refine AW_reg ?_
  refine AR_many hT 1 [0, 1] [(0, (.str v1)), (1, (.int .i64 v2))] [] (by kernel_rfl) ?_
  refine AR_fin (by kernel_rfl) ?_
  refine AE_seqN ?_
  refine AW_seq ?_
  refine AW_seq ?_
  refine AW_reg ?_
  refine AR_many hT 2 [0, 6] [(0, (.str v1)), (6, (.bool (v2 == 1)))] [] (by kernel_rfl) ?_
  refine AR_fin (by kernel_rfl) ?_
  refine AE_seqN ?_
  rcases Bool.eq_false_or_eq_true (v2 == 1) with h1 | h1
  · replace h := bifT h1 h
    refine AW_ifT (q := (v2 == 1)) (by kernel_rfl) h1 ?_
    refine AW_seq ?_
    obtain ⟨v3, h2, h⟩ := Option.bind_eq_some_iff.mp h
    try dsimp only at h
    refine AW_reg ?_
    refine AR_many hT 1 [7] [(7, (.str v1))] [] (by kernel_rfl) ?_
    refine AR_op (by kernel_rfl) (OpJ_callK (g := 38) (args := [(.str v1)]) (by kernel_rfl) Go.Proofs.Try.func38 (by kernel_rfl) (by kernel_rfl) (Fn_pure (F38_ok k v1 v3 h2) (by simp [AV.low, AV.lows, AObj.low]) (by simp [AV.low, AV.lows, AObj.low]))) ?_
    refine AR_many hT 1 [4] [(4, (.bool v3))] [] (by kernel_rfl) ?_
    refine AR_fin (by kernel_rfl) ?_
    refine AE_seqN ?_
    refine AE_ret ?_
    refine AE_seqR ?_
    refine AE_keep [4] (env' := [(4, (.bool v3))]) (by kernel_rfl) ?_
    simp only [Option.some.injEq] at h
    subst h
    exact AE_done ⟨trivial, by kernel_rfl, by kernel_rfl, by simp [AV.low, AV.lows, AObj.low], by simp [AV.low, AV.lows, AObj.low]⟩
  · replace h := bifF h1 h
    refine AW_ifF (q := (v2 == 1)) (by kernel_rfl) h1 ?_
    refine AE_skip ?_
    refine AE_seqN ?_
    refine AW_seq ?_
    refine AW_reg ?_
    refine AR_many hT 3 [4] [(4, (.bool (v1.toList == (ByteArray.mk #[]).toList)))] [] (by kernel_rfl) ?_
    refine AR_fin (by kernel_rfl) ?_
    refine AE_seqN ?_
    refine AE_ret ?_
    refine AE_keep [4] (env' := [(4, (.bool (v1.toList == (ByteArray.mk #[]).toList)))]) (by kernel_rfl) ?_
    simp only [Option.some.injEq] at h
    subst h
    exact AE_done ⟨trivial, by kernel_rfl, by kernel_rfl, by simp [AV.low, AV.lows, AObj.low], by simp [AV.low, AV.lows, AObj.low]⟩

mutual
def F82 : Nat → Int → ByteArray → Int → ByteArray → (List T57) → Int → Int → Option (Int)
  | 0, _, _, _, _, _, _, _ => none
  | k + 1, v1, v2, v3, v4, v5, v6, v7 =>
    (bif (v1 == 1) then
      (bif (v2.toList == (ByteArray.mk #[]).toList) then
        (bif (v4.toList == (ByteArray.mk #[]).toList) then
          (bif (decide (v3 ≥ 0)) then
            (bif (decide (v3 ≤ 65535)) then
              F82_j0 k v7 v1 v2 v3 v4 v5 (((l57 v5).length : Int) == 0)
            else
              F82_j0 k v7 v1 v2 v3 v4 v5 false)
          else
            F82_j0 k v7 v1 v2 v3 v4 v5 false)
        else
          F82_j0 k v7 v1 v2 v3 v4 v5 false)
      else
        F82_j0 k v7 v1 v2 v3 v4 v5 false)
    else
      F82_j0 k v7 v1 v2 v3 v4 v5 false)
def F82_j0 : Nat → Int → Int → ByteArray → Int → ByteArray → (List T57) → Bool → Option (Int)
  | 0, _, _, _, _, _, _, _ => none
  | k6 + 1, v7, v1, v2, v3, v4, v5, v8 =>
    (bif (v1 == 2) then
      (bif (v2.toList == (ByteArray.mk #[]).toList) then
        (bif (v3 == 0) then
          ((F38 k6 v4).bind fun v10 =>
            (bif v10 then
              F82_j1 k6 v7 v8 v1 v2 v3 v4 v5 (((l57 v5).length : Int) == 0)
            else
              F82_j1 k6 v7 v8 v1 v2 v3 v4 v5 false))
        else
          F82_j1 k6 v7 v8 v1 v2 v3 v4 v5 false)
      else
        F82_j1 k6 v7 v8 v1 v2 v3 v4 v5 false)
    else
      F82_j1 k6 v7 v8 v1 v2 v3 v4 v5 false)
def F82_j1 : Nat → Int → Bool → Int → ByteArray → Int → ByteArray → (List T57) → Bool → Option (Int)
  | 0, _, _, _, _, _, _, _, _ => none
  | k13 + 1, v7, v8, v1, v2, v3, v4, v5, v9 =>
    (bif (v1 == 3) then
      (bif (v2.toList == (ByteArray.mk #[45]).toList) then
        (bif (v3 == 0) then
          (bif (v4.toList == (ByteArray.mk #[]).toList) then
            F82_j2 k13 v7 v8 v9 v1 v2 v3 v4 v5 (((l57 v5).length : Int) == 1)
          else
            F82_j2 k13 v7 v8 v9 v1 v2 v3 v4 v5 false)
        else
          F82_j2 k13 v7 v8 v9 v1 v2 v3 v4 v5 false)
      else
        (bif (v2.toList == (ByteArray.mk #[126]).toList) then
          (bif (v3 == 0) then
            (bif (v4.toList == (ByteArray.mk #[]).toList) then
              F82_j2 k13 v7 v8 v9 v1 v2 v3 v4 v5 (((l57 v5).length : Int) == 1)
            else
              F82_j2 k13 v7 v8 v9 v1 v2 v3 v4 v5 false)
          else
            F82_j2 k13 v7 v8 v9 v1 v2 v3 v4 v5 false)
        else
          (bif (v2.toList == (ByteArray.mk #[33]).toList) then
            (bif (v3 == 0) then
              (bif (v4.toList == (ByteArray.mk #[]).toList) then
                F82_j2 k13 v7 v8 v9 v1 v2 v3 v4 v5 (((l57 v5).length : Int) == 1)
              else
                F82_j2 k13 v7 v8 v9 v1 v2 v3 v4 v5 false)
            else
              F82_j2 k13 v7 v8 v9 v1 v2 v3 v4 v5 false)
          else
            F82_j2 k13 v7 v8 v9 v1 v2 v3 v4 v5 false)))
    else
      F82_j2 k13 v7 v8 v9 v1 v2 v3 v4 v5 false)
def F82_j2 : Nat → Int → Bool → Bool → Int → ByteArray → Int → ByteArray → (List T57) → Bool → Option (Int)
  | 0, _, _, _, _, _, _, _, _, _ => none
  | k25 + 1, v7, v8, v9, v1, v2, v3, v4, v5, v11 =>
    (bif (v1 == 4) then
      ((F122 k25 v2).bind fun v13 =>
        (bif (decide (v13 > 0)) then
          (bif (v3 == 0) then
            (bif (v4.toList == (ByteArray.mk #[]).toList) then
              F82_j3 k25 v7 v8 v9 v11 v5 (((l57 v5).length : Int) == 2)
            else
              F82_j3 k25 v7 v8 v9 v11 v5 false)
          else
            F82_j3 k25 v7 v8 v9 v11 v5 false)
        else
          F82_j3 k25 v7 v8 v9 v11 v5 false))
    else
      F82_j3 k25 v7 v8 v9 v11 v5 false)
def F82_j3 : Nat → Int → Bool → Bool → Bool → (List T57) → Bool → Option (Int)
  | 0, _, _, _, _, _, _ => none
  | k32 + 1, v7, v8, v9, v11, v5, v12 =>
    (bif (decide (v7 < 1)) then
      F82_j4 k32 v7 v5 true
    else
      (bif (!v8) then
        (bif (!v9) then
          (bif (!v11) then
            F82_j4 k32 v7 v5 (!v12)
          else
            F82_j4 k32 v7 v5 false)
        else
          F82_j4 k32 v7 v5 false)
      else
        F82_j4 k32 v7 v5 false))
def F82_j4 : Nat → Int → (List T57) → Bool → Option (Int)
  | 0, _, _, _ => none
  | k38 + 1, v7, v5, v14 =>
    (bif v14 then
      some ((-1))
    else
      F82_l5 k38 v7 v5 1 0)
def F82_j6 : Nat → Int → (List T57) → Int → Int → Int → Bool → Option (Int)
  | 0, _, _, _, _, _, _ => none
  | k47 + 1, v7, v5, v24, v25, v26, v27 =>
    (bif v27 then
      some ((-1))
    else
      F82_l5 k47 v7 v5 (IntKind.wrap .i64 (v24 + v26)) (IntKind.wrap .i64 (v25 + 1)))
def F82_l5 : Nat → Int → (List T57) → Int → Int → Option (Int)
  | 0, _, _, _, _ => none
  | k41 + 1, v7, v5, v15, v16 =>
    (bif (decide (v16 < ((l57 v5).length : Int))) then
      ((idx v5 v16).bind fun ⟨v17, v18, v19, v20, v21, v22⟩ =>
        ((F82 k41 v17 v18 v19 v20 v21 v22 (IntKind.wrap .i64 (v7 - 1))).bind fun v23 =>
          (bif (decide (v23 < 0)) then
            F82_j6 k41 v7 v5 v15 v16 v23 true
          else
            F82_j6 k41 v7 v5 v15 v16 v23 (decide (v23 > 10000)))))
    else
      some (v15))
end

theorem F82_step (K0 : Nat) (ih_F82 : ∀ k, k < K0 → ∀ (v1 : Int) (v2 : ByteArray) (v3 : Int) (v4 : ByteArray) (v5 : (List T57)) (v6 : Int) (v7 : Int) (r1 : Int), F82 k v1 v2 v3 v4 v5 v6 v7 = some (r1) → Fn prog 82 [(.agg [(.int .i64 v1), (.str v2), (.int .i64 v3), (.str v4), (.sl (l57 v5)), (.int .i64 v6)]), (.int .i64 v7)] [] (.int .i64 r1) []) : ∀ (v1 : Int) (v2 : ByteArray) (v3 : Int) (v4 : ByteArray) (v5 : (List T57)) (v6 : Int) (v7 : Int) (r1 : Int), F82 K0 v1 v2 v3 v4 v5 v6 v7 = some (r1) → Fn prog 82 [(.agg [(.int .i64 v1), (.str v2), (.int .i64 v3), (.str v4), (.sl (l57 v5)), (.int .i64 v6)]), (.int .i64 v7)] [] (.int .i64 r1) [] := by
  intro v1 v2 v3 v4 v5 v6 v7 r1 h
  cases K0 with
  | zero => rw [F82] at h; cases h
  | succ k =>
    have hk : k < k + 1 := Nat.lt_succ_self k
    rw [F82] at h
    refine Fn_bodyK hT Go.Proofs.Try.func82 (c := Go.Proofs.Try.f82.body.getD .skip) (by kernel_rfl) (by kernel_rfl) (by kernel_rfl) ?_
    refine AW_seq ?_
    refine AW_reg ?_
    refine AR_many hT 2 [1, 2] [(1, (.int .i64 v7)), (2, (.ptr 0 0))] [.cells [(.int .i64 v1), (.str v2), (.int .i64 v3), (.str v4), (.sl (l57 v5)), (.int .i64 v6)]] (by kernel_rfl) ?_
    refine AR_fin (by kernel_rfl) ?_
    refine AE_seqN ?_
    refine AW_join (fun env L => ∃ (v8 : Bool), env = [(1, (.int .i64 v7)), (2, (.ptr 0 0)), (5, (.bool v8))] ∧ L = [.cells [(.int .i64 v1), (.str v2), (.int .i64 v3), (.str v4), (.sl (l57 v5)), (.int .i64 v6)]] ∧ ∃ n, n ≤ k ∧ F82_j0 n v7 v1 v2 v3 v4 v5 v8 = some (r1)) ?_ ?_
    · rcases Bool.eq_false_or_eq_true (v1 == 1) with h1 | h1
      · replace h := bifT h1 h
        rcases Bool.eq_false_or_eq_true (v2.toList == (ByteArray.mk #[]).toList) with h2 | h2
        · replace h := bifT h2 h
          rcases Bool.eq_false_or_eq_true (v4.toList == (ByteArray.mk #[]).toList) with h3 | h3
          · replace h := bifT h3 h
            rcases Bool.eq_false_or_eq_true (decide (v3 ≥ 0)) with h4 | h4
            · replace h := bifT h4 h
              rcases Bool.eq_false_or_eq_true (decide (v3 ≤ 65535)) with h5 | h5
              · replace h := bifT h5 h
                refine AW_reg ?_
                refine AR_many hT 3 [1, 2, 14] [(1, (.int .i64 v7)), (2, (.ptr 0 0)), (14, (.bool (v1 == 1)))] [.cells [(.int .i64 v1), (.str v2), (.int .i64 v3), (.str v4), (.sl (l57 v5)), (.int .i64 v6)]] (by kernel_rfl) ?_
                refine AR_op (by kernel_rfl) (OpJ_boolK hT (q := (v1 == 1)) (by kernel_rfl) h1) ?_
                refine AR_many hT 4 [1, 2, 19] [(1, (.int .i64 v7)), (2, (.ptr 0 0)), (19, (.bool (v2.toList == (ByteArray.mk #[]).toList)))] [.cells [(.int .i64 v1), (.str v2), (.int .i64 v3), (.str v4), (.sl (l57 v5)), (.int .i64 v6)]] (by kernel_rfl) ?_
                refine AR_op (by kernel_rfl) (OpJ_boolK hT (q := (v2.toList == (ByteArray.mk #[]).toList)) (by kernel_rfl) h2) ?_
                refine AR_many hT 4 [1, 2, 24] [(1, (.int .i64 v7)), (2, (.ptr 0 0)), (24, (.bool (v4.toList == (ByteArray.mk #[]).toList)))] [.cells [(.int .i64 v1), (.str v2), (.int .i64 v3), (.str v4), (.sl (l57 v5)), (.int .i64 v6)]] (by kernel_rfl) ?_
                refine AR_op (by kernel_rfl) (OpJ_boolK hT (q := (v4.toList == (ByteArray.mk #[]).toList)) (by kernel_rfl) h3) ?_
                refine AR_many hT 4 [1, 2, 29] [(1, (.int .i64 v7)), (2, (.ptr 0 0)), (29, (.bool (decide (v3 ≥ 0))))] [.cells [(.int .i64 v1), (.str v2), (.int .i64 v3), (.str v4), (.sl (l57 v5)), (.int .i64 v6)]] (by kernel_rfl) ?_
                refine AR_op (by kernel_rfl) (OpJ_boolK hT (q := (decide (v3 ≥ 0))) (by kernel_rfl) h4) ?_
                refine AR_many hT 4 [1, 2, 34] [(1, (.int .i64 v7)), (2, (.ptr 0 0)), (34, (.bool (decide (v3 ≤ 65535))))] [.cells [(.int .i64 v1), (.str v2), (.int .i64 v3), (.str v4), (.sl (l57 v5)), (.int .i64 v6)]] (by kernel_rfl) ?_
                refine AR_op (by kernel_rfl) (OpJ_boolK hT (q := (decide (v3 ≤ 65535))) (by kernel_rfl) h5) ?_
                refine AR_many hT 6 [1, 2, 5] [(1, (.int .i64 v7)), (2, (.ptr 0 0)), (5, (.bool (((l57 v5).length : Int) == 0)))] [.cells [(.int .i64 v1), (.str v2), (.int .i64 v3), (.str v4), (.sl (l57 v5)), (.int .i64 v6)]] (by kernel_rfl) ?_
                refine AR_fin (by kernel_rfl) ?_
                refine AE_keep [1, 2, 5] (env' := [(1, (.int .i64 v7)), (2, (.ptr 0 0)), (5, (.bool (((l57 v5).length : Int) == 0)))]) (by kernel_rfl) ?_
                exact AE_done ⟨(((l57 v5).length : Int) == 0), rfl, rfl, k, Nat.le_refl _, h⟩
              · replace h := bifF h5 h
                refine AW_reg ?_
                refine AR_many hT 3 [1, 2, 14] [(1, (.int .i64 v7)), (2, (.ptr 0 0)), (14, (.bool (v1 == 1)))] [.cells [(.int .i64 v1), (.str v2), (.int .i64 v3), (.str v4), (.sl (l57 v5)), (.int .i64 v6)]] (by kernel_rfl) ?_
                refine AR_op (by kernel_rfl) (OpJ_boolK hT (q := (v1 == 1)) (by kernel_rfl) h1) ?_
                refine AR_many hT 4 [1, 2, 19] [(1, (.int .i64 v7)), (2, (.ptr 0 0)), (19, (.bool (v2.toList == (ByteArray.mk #[]).toList)))] [.cells [(.int .i64 v1), (.str v2), (.int .i64 v3), (.str v4), (.sl (l57 v5)), (.int .i64 v6)]] (by kernel_rfl) ?_
                refine AR_op (by kernel_rfl) (OpJ_boolK hT (q := (v2.toList == (ByteArray.mk #[]).toList)) (by kernel_rfl) h2) ?_
                refine AR_many hT 4 [1, 2, 24] [(1, (.int .i64 v7)), (2, (.ptr 0 0)), (24, (.bool (v4.toList == (ByteArray.mk #[]).toList)))] [.cells [(.int .i64 v1), (.str v2), (.int .i64 v3), (.str v4), (.sl (l57 v5)), (.int .i64 v6)]] (by kernel_rfl) ?_
                refine AR_op (by kernel_rfl) (OpJ_boolK hT (q := (v4.toList == (ByteArray.mk #[]).toList)) (by kernel_rfl) h3) ?_
                refine AR_many hT 4 [1, 2, 29] [(1, (.int .i64 v7)), (2, (.ptr 0 0)), (29, (.bool (decide (v3 ≥ 0))))] [.cells [(.int .i64 v1), (.str v2), (.int .i64 v3), (.str v4), (.sl (l57 v5)), (.int .i64 v6)]] (by kernel_rfl) ?_
                refine AR_op (by kernel_rfl) (OpJ_boolK hT (q := (decide (v3 ≥ 0))) (by kernel_rfl) h4) ?_
                refine AR_many hT 4 [1, 2, 34] [(1, (.int .i64 v7)), (2, (.ptr 0 0)), (34, (.bool (decide (v3 ≤ 65535))))] [.cells [(.int .i64 v1), (.str v2), (.int .i64 v3), (.str v4), (.sl (l57 v5)), (.int .i64 v6)]] (by kernel_rfl) ?_
                refine AR_op (by kernel_rfl) (OpJ_boolK hT (q := (decide (v3 ≤ 65535))) (by kernel_rfl) h5) ?_
                refine AR_many hT 6 [1, 2, 5] [(1, (.int .i64 v7)), (2, (.ptr 0 0)), (5, (.bool false))] [.cells [(.int .i64 v1), (.str v2), (.int .i64 v3), (.str v4), (.sl (l57 v5)), (.int .i64 v6)]] (by kernel_rfl) ?_
                refine AR_fin (by kernel_rfl) ?_
                refine AE_keep [1, 2, 5] (env' := [(1, (.int .i64 v7)), (2, (.ptr 0 0)), (5, (.bool false))]) (by kernel_rfl) ?_
                exact AE_done ⟨false, rfl, rfl, k, Nat.le_refl _, h⟩
            · replace h := bifF h4 h
              refine AW_reg ?_
              refine AR_many hT 3 [1, 2, 14] [(1, (.int .i64 v7)), (2, (.ptr 0 0)), (14, (.bool (v1 == 1)))] [.cells [(.int .i64 v1), (.str v2), (.int .i64 v3), (.str v4), (.sl (l57 v5)), (.int .i64 v6)]] (by kernel_rfl) ?_
              refine AR_op (by kernel_rfl) (OpJ_boolK hT (q := (v1 == 1)) (by kernel_rfl) h1) ?_
              refine AR_many hT 4 [1, 2, 19] [(1, (.int .i64 v7)), (2, (.ptr 0 0)), (19, (.bool (v2.toList == (ByteArray.mk #[]).toList)))] [.cells [(.int .i64 v1), (.str v2), (.int .i64 v3), (.str v4), (.sl (l57 v5)), (.int .i64 v6)]] (by kernel_rfl) ?_
              refine AR_op (by kernel_rfl) (OpJ_boolK hT (q := (v2.toList == (ByteArray.mk #[]).toList)) (by kernel_rfl) h2) ?_
              refine AR_many hT 4 [1, 2, 24] [(1, (.int .i64 v7)), (2, (.ptr 0 0)), (24, (.bool (v4.toList == (ByteArray.mk #[]).toList)))] [.cells [(.int .i64 v1), (.str v2), (.int .i64 v3), (.str v4), (.sl (l57 v5)), (.int .i64 v6)]] (by kernel_rfl) ?_
              refine AR_op (by kernel_rfl) (OpJ_boolK hT (q := (v4.toList == (ByteArray.mk #[]).toList)) (by kernel_rfl) h3) ?_
              refine AR_many hT 4 [1, 2, 29] [(1, (.int .i64 v7)), (2, (.ptr 0 0)), (29, (.bool (decide (v3 ≥ 0))))] [.cells [(.int .i64 v1), (.str v2), (.int .i64 v3), (.str v4), (.sl (l57 v5)), (.int .i64 v6)]] (by kernel_rfl) ?_
              refine AR_op (by kernel_rfl) (OpJ_boolK hT (q := (decide (v3 ≥ 0))) (by kernel_rfl) h4) ?_
              refine AR_many hT 11 [1, 2, 5] [(1, (.int .i64 v7)), (2, (.ptr 0 0)), (5, (.bool false))] [.cells [(.int .i64 v1), (.str v2), (.int .i64 v3), (.str v4), (.sl (l57 v5)), (.int .i64 v6)]] (by kernel_rfl) ?_
              refine AR_fin (by kernel_rfl) ?_
              refine AE_keep [1, 2, 5] (env' := [(1, (.int .i64 v7)), (2, (.ptr 0 0)), (5, (.bool false))]) (by kernel_rfl) ?_
              exact AE_done ⟨false, rfl, rfl, k, Nat.le_refl _, h⟩
          · replace h := bifF h3 h
            refine AW_reg ?_
            refine AR_many hT 3 [1, 2, 14] [(1, (.int .i64 v7)), (2, (.ptr 0 0)), (14, (.bool (v1 == 1)))] [.cells [(.int .i64 v1), (.str v2), (.int .i64 v3), (.str v4), (.sl (l57 v5)), (.int .i64 v6)]] (by kernel_rfl) ?_
            refine AR_op (by kernel_rfl) (OpJ_boolK hT (q := (v1 == 1)) (by kernel_rfl) h1) ?_
            refine AR_many hT 4 [1, 2, 19] [(1, (.int .i64 v7)), (2, (.ptr 0 0)), (19, (.bool (v2.toList == (ByteArray.mk #[]).toList)))] [.cells [(.int .i64 v1), (.str v2), (.int .i64 v3), (.str v4), (.sl (l57 v5)), (.int .i64 v6)]] (by kernel_rfl) ?_
            refine AR_op (by kernel_rfl) (OpJ_boolK hT (q := (v2.toList == (ByteArray.mk #[]).toList)) (by kernel_rfl) h2) ?_
            refine AR_many hT 4 [1, 2, 24] [(1, (.int .i64 v7)), (2, (.ptr 0 0)), (24, (.bool (v4.toList == (ByteArray.mk #[]).toList)))] [.cells [(.int .i64 v1), (.str v2), (.int .i64 v3), (.str v4), (.sl (l57 v5)), (.int .i64 v6)]] (by kernel_rfl) ?_
            refine AR_op (by kernel_rfl) (OpJ_boolK hT (q := (v4.toList == (ByteArray.mk #[]).toList)) (by kernel_rfl) h3) ?_
            refine AR_many hT 16 [1, 2, 5] [(1, (.int .i64 v7)), (2, (.ptr 0 0)), (5, (.bool false))] [.cells [(.int .i64 v1), (.str v2), (.int .i64 v3), (.str v4), (.sl (l57 v5)), (.int .i64 v6)]] (by kernel_rfl) ?_
            refine AR_fin (by kernel_rfl) ?_
            refine AE_keep [1, 2, 5] (env' := [(1, (.int .i64 v7)), (2, (.ptr 0 0)), (5, (.bool false))]) (by kernel_rfl) ?_
            exact AE_done ⟨false, rfl, rfl, k, Nat.le_refl _, h⟩
        · replace h := bifF h2 h
          refine AW_reg ?_
          refine AR_many hT 3 [1, 2, 14] [(1, (.int .i64 v7)), (2, (.ptr 0 0)), (14, (.bool (v1 == 1)))] [.cells [(.int .i64 v1), (.str v2), (.int .i64 v3), (.str v4), (.sl (l57 v5)), (.int .i64 v6)]] (by kernel_rfl) ?_
          refine AR_op (by kernel_rfl) (OpJ_boolK hT (q := (v1 == 1)) (by kernel_rfl) h1) ?_
          refine AR_many hT 4 [1, 2, 19] [(1, (.int .i64 v7)), (2, (.ptr 0 0)), (19, (.bool (v2.toList == (ByteArray.mk #[]).toList)))] [.cells [(.int .i64 v1), (.str v2), (.int .i64 v3), (.str v4), (.sl (l57 v5)), (.int .i64 v6)]] (by kernel_rfl) ?_
          refine AR_op (by kernel_rfl) (OpJ_boolK hT (q := (v2.toList == (ByteArray.mk #[]).toList)) (by kernel_rfl) h2) ?_
          refine AR_many hT 21 [1, 2, 5] [(1, (.int .i64 v7)), (2, (.ptr 0 0)), (5, (.bool false))] [.cells [(.int .i64 v1), (.str v2), (.int .i64 v3), (.str v4), (.sl (l57 v5)), (.int .i64 v6)]] (by kernel_rfl) ?_
          refine AR_fin (by kernel_rfl) ?_
          refine AE_keep [1, 2, 5] (env' := [(1, (.int .i64 v7)), (2, (.ptr 0 0)), (5, (.bool false))]) (by kernel_rfl) ?_
          exact AE_done ⟨false, rfl, rfl, k, Nat.le_refl _, h⟩
      · replace h := bifF h1 h
        refine AW_reg ?_
        refine AR_many hT 3 [1, 2, 14] [(1, (.int .i64 v7)), (2, (.ptr 0 0)), (14, (.bool (v1 == 1)))] [.cells [(.int .i64 v1), (.str v2), (.int .i64 v3), (.str v4), (.sl (l57 v5)), (.int .i64 v6)]] (by kernel_rfl) ?_
        refine AR_op (by kernel_rfl) (OpJ_boolK hT (q := (v1 == 1)) (by kernel_rfl) h1) ?_
        refine AR_many hT 26 [1, 2, 5] [(1, (.int .i64 v7)), (2, (.ptr 0 0)), (5, (.bool false))] [.cells [(.int .i64 v1), (.str v2), (.int .i64 v3), (.str v4), (.sl (l57 v5)), (.int .i64 v6)]] (by kernel_rfl) ?_
        refine AR_fin (by kernel_rfl) ?_
        refine AE_keep [1, 2, 5] (env' := [(1, (.int .i64 v7)), (2, (.ptr 0 0)), (5, (.bool false))]) (by kernel_rfl) ?_
        exact AE_done ⟨false, rfl, rfl, k, Nat.le_refl _, h⟩
    · rintro _ _ ⟨v8, rfl, rfl, n, hn, h⟩
      obtain _ | k6 := n
      · rw [F82_j0] at h; cases h
      have h7 : k6 < (k + 1) := by omega
      rw [F82_j0] at h
      refine AW_join (fun env L => ∃ (v9 : Bool), env = [(1, (.int .i64 v7)), (2, (.ptr 0 0)), (5, (.bool v8)), (6, (.bool v9))] ∧ L = [.cells [(.int .i64 v1), (.str v2), (.int .i64 v3), (.str v4), (.sl (l57 v5)), (.int .i64 v6)]] ∧ ∃ n, n ≤ k6 ∧ F82_j1 n v7 v8 v1 v2 v3 v4 v5 v9 = some (r1)) ?_ ?_
      · rcases Bool.eq_false_or_eq_true (v1 == 2) with h8 | h8
        · replace h := bifT h8 h
          rcases Bool.eq_false_or_eq_true (v2.toList == (ByteArray.mk #[]).toList) with h9 | h9
          · replace h := bifT h9 h
            rcases Bool.eq_false_or_eq_true (v3 == 0) with h10 | h10
            · replace h := bifT h10 h
              obtain ⟨v10, h11, h⟩ := Option.bind_eq_some_iff.mp h
              try dsimp only at h
              rcases Bool.eq_false_or_eq_true v10 with h12 | h12
              · replace h := bifT h12 h
                refine AW_reg ?_
                refine AR_many hT 3 [1, 2, 5, 43] [(1, (.int .i64 v7)), (2, (.ptr 0 0)), (5, (.bool v8)), (43, (.bool (v1 == 2)))] [.cells [(.int .i64 v1), (.str v2), (.int .i64 v3), (.str v4), (.sl (l57 v5)), (.int .i64 v6)]] (by kernel_rfl) ?_
                refine AR_op (by kernel_rfl) (OpJ_boolK hT (q := (v1 == 2)) (by kernel_rfl) h8) ?_
                refine AR_many hT 4 [1, 2, 5, 48] [(1, (.int .i64 v7)), (2, (.ptr 0 0)), (5, (.bool v8)), (48, (.bool (v2.toList == (ByteArray.mk #[]).toList)))] [.cells [(.int .i64 v1), (.str v2), (.int .i64 v3), (.str v4), (.sl (l57 v5)), (.int .i64 v6)]] (by kernel_rfl) ?_
                refine AR_op (by kernel_rfl) (OpJ_boolK hT (q := (v2.toList == (ByteArray.mk #[]).toList)) (by kernel_rfl) h9) ?_
                refine AR_many hT 4 [1, 2, 5, 53] [(1, (.int .i64 v7)), (2, (.ptr 0 0)), (5, (.bool v8)), (53, (.bool (v3 == 0)))] [.cells [(.int .i64 v1), (.str v2), (.int .i64 v3), (.str v4), (.sl (l57 v5)), (.int .i64 v6)]] (by kernel_rfl) ?_
                refine AR_op (by kernel_rfl) (OpJ_boolK hT (q := (v3 == 0)) (by kernel_rfl) h10) ?_
                refine AR_many hT 2 [1, 2, 5, 54, 56] [(1, (.int .i64 v7)), (2, (.ptr 0 0)), (5, (.bool v8)), (54, (.bool true)), (56, (.str v4))] [.cells [(.int .i64 v1), (.str v2), (.int .i64 v3), (.str v4), (.sl (l57 v5)), (.int .i64 v6)]] (by kernel_rfl) ?_
                refine AR_op (by kernel_rfl) (OpJ_callK (g := 38) (args := [(.str v4)]) (by kernel_rfl) Go.Proofs.Try.func38 (by kernel_rfl) (by kernel_rfl) (Fn_pure (F38_ok k6 v4 v10 h11) (by simp [AV.low, AV.lows, AObj.low]) (by simp [AV.low, AV.lows, AObj.low]))) ?_
                refine AR_many hT 1 [1, 2, 5, 58] [(1, (.int .i64 v7)), (2, (.ptr 0 0)), (5, (.bool v8)), (58, (.bool v10))] [.cells [(.int .i64 v1), (.str v2), (.int .i64 v3), (.str v4), (.sl (l57 v5)), (.int .i64 v6)]] (by kernel_rfl) ?_
                refine AR_op (by kernel_rfl) (OpJ_boolK hT (q := v10) (by kernel_rfl) h12) ?_
                refine AR_many hT 6 [1, 2, 5, 6] [(1, (.int .i64 v7)), (2, (.ptr 0 0)), (5, (.bool v8)), (6, (.bool (((l57 v5).length : Int) == 0)))] [.cells [(.int .i64 v1), (.str v2), (.int .i64 v3), (.str v4), (.sl (l57 v5)), (.int .i64 v6)]] (by kernel_rfl) ?_
                refine AR_fin (by kernel_rfl) ?_
                refine AE_keep [1, 2, 5, 6] (env' := [(1, (.int .i64 v7)), (2, (.ptr 0 0)), (5, (.bool v8)), (6, (.bool (((l57 v5).length : Int) == 0)))]) (by kernel_rfl) ?_
                exact AE_done ⟨(((l57 v5).length : Int) == 0), rfl, rfl, k6, Nat.le_refl _, h⟩
              · replace h := bifF h12 h
                refine AW_reg ?_
                refine AR_many hT 3 [1, 2, 5, 43] [(1, (.int .i64 v7)), (2, (.ptr 0 0)), (5, (.bool v8)), (43, (.bool (v1 == 2)))] [.cells [(.int .i64 v1), (.str v2), (.int .i64 v3), (.str v4), (.sl (l57 v5)), (.int .i64 v6)]] (by kernel_rfl) ?_
                refine AR_op (by kernel_rfl) (OpJ_boolK hT (q := (v1 == 2)) (by kernel_rfl) h8) ?_
                refine AR_many hT 4 [1, 2, 5, 48] [(1, (.int .i64 v7)), (2, (.ptr 0 0)), (5, (.bool v8)), (48, (.bool (v2.toList == (ByteArray.mk #[]).toList)))] [.cells [(.int .i64 v1), (.str v2), (.int .i64 v3), (.str v4), (.sl (l57 v5)), (.int .i64 v6)]] (by kernel_rfl) ?_
                refine AR_op (by kernel_rfl) (OpJ_boolK hT (q := (v2.toList == (ByteArray.mk #[]).toList)) (by kernel_rfl) h9) ?_
                refine AR_many hT 4 [1, 2, 5, 53] [(1, (.int .i64 v7)), (2, (.ptr 0 0)), (5, (.bool v8)), (53, (.bool (v3 == 0)))] [.cells [(.int .i64 v1), (.str v2), (.int .i64 v3), (.str v4), (.sl (l57 v5)), (.int .i64 v6)]] (by kernel_rfl) ?_
                refine AR_op (by kernel_rfl) (OpJ_boolK hT (q := (v3 == 0)) (by kernel_rfl) h10) ?_
                refine AR_many hT 2 [1, 2, 5, 54, 56] [(1, (.int .i64 v7)), (2, (.ptr 0 0)), (5, (.bool v8)), (54, (.bool true)), (56, (.str v4))] [.cells [(.int .i64 v1), (.str v2), (.int .i64 v3), (.str v4), (.sl (l57 v5)), (.int .i64 v6)]] (by kernel_rfl) ?_
                refine AR_op (by kernel_rfl) (OpJ_callK (g := 38) (args := [(.str v4)]) (by kernel_rfl) Go.Proofs.Try.func38 (by kernel_rfl) (by kernel_rfl) (Fn_pure (F38_ok k6 v4 v10 h11) (by simp [AV.low, AV.lows, AObj.low]) (by simp [AV.low, AV.lows, AObj.low]))) ?_
                refine AR_many hT 1 [1, 2, 5, 58] [(1, (.int .i64 v7)), (2, (.ptr 0 0)), (5, (.bool v8)), (58, (.bool v10))] [.cells [(.int .i64 v1), (.str v2), (.int .i64 v3), (.str v4), (.sl (l57 v5)), (.int .i64 v6)]] (by kernel_rfl) ?_
                refine AR_op (by kernel_rfl) (OpJ_boolK hT (q := v10) (by kernel_rfl) h12) ?_
                refine AR_many hT 6 [1, 2, 5, 6] [(1, (.int .i64 v7)), (2, (.ptr 0 0)), (5, (.bool v8)), (6, (.bool false))] [.cells [(.int .i64 v1), (.str v2), (.int .i64 v3), (.str v4), (.sl (l57 v5)), (.int .i64 v6)]] (by kernel_rfl) ?_
                refine AR_fin (by kernel_rfl) ?_
                refine AE_keep [1, 2, 5, 6] (env' := [(1, (.int .i64 v7)), (2, (.ptr 0 0)), (5, (.bool v8)), (6, (.bool false))]) (by kernel_rfl) ?_
                exact AE_done ⟨false, rfl, rfl, k6, Nat.le_refl _, h⟩
            · replace h := bifF h10 h
              refine AW_reg ?_
              refine AR_many hT 3 [1, 2, 5, 43] [(1, (.int .i64 v7)), (2, (.ptr 0 0)), (5, (.bool v8)), (43, (.bool (v1 == 2)))] [.cells [(.int .i64 v1), (.str v2), (.int .i64 v3), (.str v4), (.sl (l57 v5)), (.int .i64 v6)]] (by kernel_rfl) ?_
              refine AR_op (by kernel_rfl) (OpJ_boolK hT (q := (v1 == 2)) (by kernel_rfl) h8) ?_
              refine AR_many hT 4 [1, 2, 5, 48] [(1, (.int .i64 v7)), (2, (.ptr 0 0)), (5, (.bool v8)), (48, (.bool (v2.toList == (ByteArray.mk #[]).toList)))] [.cells [(.int .i64 v1), (.str v2), (.int .i64 v3), (.str v4), (.sl (l57 v5)), (.int .i64 v6)]] (by kernel_rfl) ?_
              refine AR_op (by kernel_rfl) (OpJ_boolK hT (q := (v2.toList == (ByteArray.mk #[]).toList)) (by kernel_rfl) h9) ?_
              refine AR_many hT 4 [1, 2, 5, 53] [(1, (.int .i64 v7)), (2, (.ptr 0 0)), (5, (.bool v8)), (53, (.bool (v3 == 0)))] [.cells [(.int .i64 v1), (.str v2), (.int .i64 v3), (.str v4), (.sl (l57 v5)), (.int .i64 v6)]] (by kernel_rfl) ?_
              refine AR_op (by kernel_rfl) (OpJ_boolK hT (q := (v3 == 0)) (by kernel_rfl) h10) ?_
              refine AR_many hT 11 [1, 2, 5, 6] [(1, (.int .i64 v7)), (2, (.ptr 0 0)), (5, (.bool v8)), (6, (.bool false))] [.cells [(.int .i64 v1), (.str v2), (.int .i64 v3), (.str v4), (.sl (l57 v5)), (.int .i64 v6)]] (by kernel_rfl) ?_
              refine AR_fin (by kernel_rfl) ?_
              refine AE_keep [1, 2, 5, 6] (env' := [(1, (.int .i64 v7)), (2, (.ptr 0 0)), (5, (.bool v8)), (6, (.bool false))]) (by kernel_rfl) ?_
              exact AE_done ⟨false, rfl, rfl, k6, Nat.le_refl _, h⟩
          · replace h := bifF h9 h
            refine AW_reg ?_
            refine AR_many hT 3 [1, 2, 5, 43] [(1, (.int .i64 v7)), (2, (.ptr 0 0)), (5, (.bool v8)), (43, (.bool (v1 == 2)))] [.cells [(.int .i64 v1), (.str v2), (.int .i64 v3), (.str v4), (.sl (l57 v5)), (.int .i64 v6)]] (by kernel_rfl) ?_
            refine AR_op (by kernel_rfl) (OpJ_boolK hT (q := (v1 == 2)) (by kernel_rfl) h8) ?_
            refine AR_many hT 4 [1, 2, 5, 48] [(1, (.int .i64 v7)), (2, (.ptr 0 0)), (5, (.bool v8)), (48, (.bool (v2.toList == (ByteArray.mk #[]).toList)))] [.cells [(.int .i64 v1), (.str v2), (.int .i64 v3), (.str v4), (.sl (l57 v5)), (.int .i64 v6)]] (by kernel_rfl) ?_
            refine AR_op (by kernel_rfl) (OpJ_boolK hT (q := (v2.toList == (ByteArray.mk #[]).toList)) (by kernel_rfl) h9) ?_
            refine AR_many hT 16 [1, 2, 5, 6] [(1, (.int .i64 v7)), (2, (.ptr 0 0)), (5, (.bool v8)), (6, (.bool false))] [.cells [(.int .i64 v1), (.str v2), (.int .i64 v3), (.str v4), (.sl (l57 v5)), (.int .i64 v6)]] (by kernel_rfl) ?_
            refine AR_fin (by kernel_rfl) ?_
            refine AE_keep [1, 2, 5, 6] (env' := [(1, (.int .i64 v7)), (2, (.ptr 0 0)), (5, (.bool v8)), (6, (.bool false))]) (by kernel_rfl) ?_
            exact AE_done ⟨false, rfl, rfl, k6, Nat.le_refl _, h⟩
        · replace h := bifF h8 h
          refine AW_reg ?_
          refine AR_many hT 3 [1, 2, 5, 43] [(1, (.int .i64 v7)), (2, (.ptr 0 0)), (5, (.bool v8)), (43, (.bool (v1 == 2)))] [.cells [(.int .i64 v1), (.str v2), (.int .i64 v3), (.str v4), (.sl (l57 v5)), (.int .i64 v6)]] (by kernel_rfl) ?_
          refine AR_op (by kernel_rfl) (OpJ_boolK hT (q := (v1 == 2)) (by kernel_rfl) h8) ?_
          refine AR_many hT 21 [1, 2, 5, 6] [(1, (.int .i64 v7)), (2, (.ptr 0 0)), (5, (.bool v8)), (6, (.bool false))] [.cells [(.int .i64 v1), (.str v2), (.int .i64 v3), (.str v4), (.sl (l57 v5)), (.int .i64 v6)]] (by kernel_rfl) ?_
          refine AR_fin (by kernel_rfl) ?_
          refine AE_keep [1, 2, 5, 6] (env' := [(1, (.int .i64 v7)), (2, (.ptr 0 0)), (5, (.bool v8)), (6, (.bool false))]) (by kernel_rfl) ?_
          exact AE_done ⟨false, rfl, rfl, k6, Nat.le_refl _, h⟩
      · rintro _ _ ⟨v9, rfl, rfl, n, hn, h⟩
        obtain _ | k13 := n
        · rw [F82_j1] at h; cases h
        have h14 : k13 < (k + 1) := by omega
        rw [F82_j1] at h
        refine AW_join (fun env L => ∃ (v11 : Bool), env = [(1, (.int .i64 v7)), (2, (.ptr 0 0)), (5, (.bool v8)), (6, (.bool v9)), (7, (.bool v11))] ∧ L = [.cells [(.int .i64 v1), (.str v2), (.int .i64 v3), (.str v4), (.sl (l57 v5)), (.int .i64 v6)]] ∧ ∃ n, n ≤ k13 ∧ F82_j2 n v7 v8 v9 v1 v2 v3 v4 v5 v11 = some (r1)) ?_ ?_
        · rcases Bool.eq_false_or_eq_true (v1 == 3) with h15 | h15
          · replace h := bifT h15 h
            rcases Bool.eq_false_or_eq_true (v2.toList == (ByteArray.mk #[45]).toList) with h16 | h16
            · replace h := bifT h16 h
              rcases Bool.eq_false_or_eq_true (v3 == 0) with h17 | h17
              · replace h := bifT h17 h
                rcases Bool.eq_false_or_eq_true (v4.toList == (ByteArray.mk #[]).toList) with h18 | h18
                · replace h := bifT h18 h
                  refine AW_reg ?_
                  refine AR_many hT 3 [1, 2, 5, 6, 67] [(1, (.int .i64 v7)), (2, (.ptr 0 0)), (5, (.bool v8)), (6, (.bool v9)), (67, (.bool (v1 == 3)))] [.cells [(.int .i64 v1), (.str v2), (.int .i64 v3), (.str v4), (.sl (l57 v5)), (.int .i64 v6)]] (by kernel_rfl) ?_
                  refine AR_op (by kernel_rfl) (OpJ_boolK hT (q := (v1 == 3)) (by kernel_rfl) h15) ?_
                  refine AR_many hT 3 [1, 2, 5, 6, 68, 71] [(1, (.int .i64 v7)), (2, (.ptr 0 0)), (5, (.bool v8)), (6, (.bool v9)), (68, (.bool true)), (71, (.bool (v2.toList == (ByteArray.mk #[45]).toList)))] [.cells [(.int .i64 v1), (.str v2), (.int .i64 v3), (.str v4), (.sl (l57 v5)), (.int .i64 v6)]] (by kernel_rfl) ?_
                  refine AR_op (by kernel_rfl) (OpJ_boolK hT (q := (v2.toList == (ByteArray.mk #[45]).toList)) (by kernel_rfl) h16) ?_
                  refine AR_many hT 15 [1, 2, 5, 6, 87] [(1, (.int .i64 v7)), (2, (.ptr 0 0)), (5, (.bool v8)), (6, (.bool v9)), (87, (.bool (v3 == 0)))] [.cells [(.int .i64 v1), (.str v2), (.int .i64 v3), (.str v4), (.sl (l57 v5)), (.int .i64 v6)]] (by kernel_rfl) ?_
                  refine AR_op (by kernel_rfl) (OpJ_boolK hT (q := (v3 == 0)) (by kernel_rfl) h17) ?_
                  refine AR_many hT 4 [1, 2, 5, 6, 92] [(1, (.int .i64 v7)), (2, (.ptr 0 0)), (5, (.bool v8)), (6, (.bool v9)), (92, (.bool (v4.toList == (ByteArray.mk #[]).toList)))] [.cells [(.int .i64 v1), (.str v2), (.int .i64 v3), (.str v4), (.sl (l57 v5)), (.int .i64 v6)]] (by kernel_rfl) ?_
                  refine AR_op (by kernel_rfl) (OpJ_boolK hT (q := (v4.toList == (ByteArray.mk #[]).toList)) (by kernel_rfl) h18) ?_
                  refine AR_many hT 6 [1, 2, 5, 6, 7] [(1, (.int .i64 v7)), (2, (.ptr 0 0)), (5, (.bool v8)), (6, (.bool v9)), (7, (.bool (((l57 v5).length : Int) == 1)))] [.cells [(.int .i64 v1), (.str v2), (.int .i64 v3), (.str v4), (.sl (l57 v5)), (.int .i64 v6)]] (by kernel_rfl) ?_
                  refine AR_fin (by kernel_rfl) ?_
                  refine AE_keep [1, 2, 5, 6, 7] (env' := [(1, (.int .i64 v7)), (2, (.ptr 0 0)), (5, (.bool v8)), (6, (.bool v9)), (7, (.bool (((l57 v5).length : Int) == 1)))]) (by kernel_rfl) ?_
                  exact AE_done ⟨(((l57 v5).length : Int) == 1), rfl, rfl, k13, Nat.le_refl _, h⟩
                · replace h := bifF h18 h
                  refine AW_reg ?_
                  refine AR_many hT 3 [1, 2, 5, 6, 67] [(1, (.int .i64 v7)), (2, (.ptr 0 0)), (5, (.bool v8)), (6, (.bool v9)), (67, (.bool (v1 == 3)))] [.cells [(.int .i64 v1), (.str v2), (.int .i64 v3), (.str v4), (.sl (l57 v5)), (.int .i64 v6)]] (by kernel_rfl) ?_
                  refine AR_op (by kernel_rfl) (OpJ_boolK hT (q := (v1 == 3)) (by kernel_rfl) h15) ?_
                  refine AR_many hT 3 [1, 2, 5, 6, 68, 71] [(1, (.int .i64 v7)), (2, (.ptr 0 0)), (5, (.bool v8)), (6, (.bool v9)), (68, (.bool true)), (71, (.bool (v2.toList == (ByteArray.mk #[45]).toList)))] [.cells [(.int .i64 v1), (.str v2), (.int .i64 v3), (.str v4), (.sl (l57 v5)), (.int .i64 v6)]] (by kernel_rfl) ?_
                  refine AR_op (by kernel_rfl) (OpJ_boolK hT (q := (v2.toList == (ByteArray.mk #[45]).toList)) (by kernel_rfl) h16) ?_
                  refine AR_many hT 15 [1, 2, 5, 6, 87] [(1, (.int .i64 v7)), (2, (.ptr 0 0)), (5, (.bool v8)), (6, (.bool v9)), (87, (.bool (v3 == 0)))] [.cells [(.int .i64 v1), (.str v2), (.int .i64 v3), (.str v4), (.sl (l57 v5)), (.int .i64 v6)]] (by kernel_rfl) ?_
                  refine AR_op (by kernel_rfl) (OpJ_boolK hT (q := (v3 == 0)) (by kernel_rfl) h17) ?_
                  refine AR_many hT 4 [1, 2, 5, 6, 92] [(1, (.int .i64 v7)), (2, (.ptr 0 0)), (5, (.bool v8)), (6, (.bool v9)), (92, (.bool (v4.toList == (ByteArray.mk #[]).toList)))] [.cells [(.int .i64 v1), (.str v2), (.int .i64 v3), (.str v4), (.sl (l57 v5)), (.int .i64 v6)]] (by kernel_rfl) ?_
                  refine AR_op (by kernel_rfl) (OpJ_boolK hT (q := (v4.toList == (ByteArray.mk #[]).toList)) (by kernel_rfl) h18) ?_
                  refine AR_many hT 6 [1, 2, 5, 6, 7] [(1, (.int .i64 v7)), (2, (.ptr 0 0)), (5, (.bool v8)), (6, (.bool v9)), (7, (.bool false))] [.cells [(.int .i64 v1), (.str v2), (.int .i64 v3), (.str v4), (.sl (l57 v5)), (.int .i64 v6)]] (by kernel_rfl) ?_
                  refine AR_fin (by kernel_rfl) ?_
                  refine AE_keep [1, 2, 5, 6, 7] (env' := [(1, (.int .i64 v7)), (2, (.ptr 0 0)), (5, (.bool v8)), (6, (.bool v9)), (7, (.bool false))]) (by kernel_rfl) ?_
                  exact AE_done ⟨false, rfl, rfl, k13, Nat.le_refl _, h⟩
              · replace h := bifF h17 h
                refine AW_reg ?_
                refine AR_many hT 3 [1, 2, 5, 6, 67] [(1, (.int .i64 v7)), (2, (.ptr 0 0)), (5, (.bool v8)), (6, (.bool v9)), (67, (.bool (v1 == 3)))] [.cells [(.int .i64 v1), (.str v2), (.int .i64 v3), (.str v4), (.sl (l57 v5)), (.int .i64 v6)]] (by kernel_rfl) ?_
                refine AR_op (by kernel_rfl) (OpJ_boolK hT (q := (v1 == 3)) (by kernel_rfl) h15) ?_
                refine AR_many hT 3 [1, 2, 5, 6, 68, 71] [(1, (.int .i64 v7)), (2, (.ptr 0 0)), (5, (.bool v8)), (6, (.bool v9)), (68, (.bool true)), (71, (.bool (v2.toList == (ByteArray.mk #[45]).toList)))] [.cells [(.int .i64 v1), (.str v2), (.int .i64 v3), (.str v4), (.sl (l57 v5)), (.int .i64 v6)]] (by kernel_rfl) ?_
                refine AR_op (by kernel_rfl) (OpJ_boolK hT (q := (v2.toList == (ByteArray.mk #[45]).toList)) (by kernel_rfl) h16) ?_
                refine AR_many hT 15 [1, 2, 5, 6, 87] [(1, (.int .i64 v7)), (2, (.ptr 0 0)), (5, (.bool v8)), (6, (.bool v9)), (87, (.bool (v3 == 0)))] [.cells [(.int .i64 v1), (.str v2), (.int .i64 v3), (.str v4), (.sl (l57 v5)), (.int .i64 v6)]] (by kernel_rfl) ?_
                refine AR_op (by kernel_rfl) (OpJ_boolK hT (q := (v3 == 0)) (by kernel_rfl) h17) ?_
                refine AR_many hT 11 [1, 2, 5, 6, 7] [(1, (.int .i64 v7)), (2, (.ptr 0 0)), (5, (.bool v8)), (6, (.bool v9)), (7, (.bool false))] [.cells [(.int .i64 v1), (.str v2), (.int .i64 v3), (.str v4), (.sl (l57 v5)), (.int .i64 v6)]] (by kernel_rfl) ?_
                refine AR_fin (by kernel_rfl) ?_
                refine AE_keep [1, 2, 5, 6, 7] (env' := [(1, (.int .i64 v7)), (2, (.ptr 0 0)), (5, (.bool v8)), (6, (.bool v9)), (7, (.bool false))]) (by kernel_rfl) ?_
                exact AE_done ⟨false, rfl, rfl, k13, Nat.le_refl _, h⟩
            · replace h := bifF h16 h
              rcases Bool.eq_false_or_eq_true (v2.toList == (ByteArray.mk #[126]).toList) with h19 | h19
              · replace h := bifT h19 h
                rcases Bool.eq_false_or_eq_true (v3 == 0) with h20 | h20
                · replace h := bifT h20 h
                  rcases Bool.eq_false_or_eq_true (v4.toList == (ByteArray.mk #[]).toList) with h21 | h21
                  · replace h := bifT h21 h
                    refine AW_reg ?_
                    refine AR_many hT 3 [1, 2, 5, 6, 67] [(1, (.int .i64 v7)), (2, (.ptr 0 0)), (5, (.bool v8)), (6, (.bool v9)), (67, (.bool (v1 == 3)))] [.cells [(.int .i64 v1), (.str v2), (.int .i64 v3), (.str v4), (.sl (l57 v5)), (.int .i64 v6)]] (by kernel_rfl) ?_
                    refine AR_op (by kernel_rfl) (OpJ_boolK hT (q := (v1 == 3)) (by kernel_rfl) h15) ?_
                    refine AR_many hT 3 [1, 2, 5, 6, 68, 71] [(1, (.int .i64 v7)), (2, (.ptr 0 0)), (5, (.bool v8)), (6, (.bool v9)), (68, (.bool true)), (71, (.bool (v2.toList == (ByteArray.mk #[45]).toList)))] [.cells [(.int .i64 v1), (.str v2), (.int .i64 v3), (.str v4), (.sl (l57 v5)), (.int .i64 v6)]] (by kernel_rfl) ?_
                    refine AR_op (by kernel_rfl) (OpJ_boolK hT (q := (v2.toList == (ByteArray.mk #[45]).toList)) (by kernel_rfl) h16) ?_
                    refine AR_many hT 4 [1, 2, 5, 6, 68, 76] [(1, (.int .i64 v7)), (2, (.ptr 0 0)), (5, (.bool v8)), (6, (.bool v9)), (68, (.bool true)), (76, (.bool (v2.toList == (ByteArray.mk #[126]).toList)))] [.cells [(.int .i64 v1), (.str v2), (.int .i64 v3), (.str v4), (.sl (l57 v5)), (.int .i64 v6)]] (by kernel_rfl) ?_
                    refine AR_op (by kernel_rfl) (OpJ_boolK hT (q := (v2.toList == (ByteArray.mk #[126]).toList)) (by kernel_rfl) h19) ?_
                    refine AR_many hT 10 [1, 2, 5, 6, 87] [(1, (.int .i64 v7)), (2, (.ptr 0 0)), (5, (.bool v8)), (6, (.bool v9)), (87, (.bool (v3 == 0)))] [.cells [(.int .i64 v1), (.str v2), (.int .i64 v3), (.str v4), (.sl (l57 v5)), (.int .i64 v6)]] (by kernel_rfl) ?_
                    refine AR_op (by kernel_rfl) (OpJ_boolK hT (q := (v3 == 0)) (by kernel_rfl) h20) ?_
                    refine AR_many hT 4 [1, 2, 5, 6, 92] [(1, (.int .i64 v7)), (2, (.ptr 0 0)), (5, (.bool v8)), (6, (.bool v9)), (92, (.bool (v4.toList == (ByteArray.mk #[]).toList)))] [.cells [(.int .i64 v1), (.str v2), (.int .i64 v3), (.str v4), (.sl (l57 v5)), (.int .i64 v6)]] (by kernel_rfl) ?_
                    refine AR_op (by kernel_rfl) (OpJ_boolK hT (q := (v4.toList == (ByteArray.mk #[]).toList)) (by kernel_rfl) h21) ?_
                    refine AR_many hT 6 [1, 2, 5, 6, 7] [(1, (.int .i64 v7)), (2, (.ptr 0 0)), (5, (.bool v8)), (6, (.bool v9)), (7, (.bool (((l57 v5).length : Int) == 1)))] [.cells [(.int .i64 v1), (.str v2), (.int .i64 v3), (.str v4), (.sl (l57 v5)), (.int .i64 v6)]] (by kernel_rfl) ?_
                    refine AR_fin (by kernel_rfl) ?_
                    refine AE_keep [1, 2, 5, 6, 7] (env' := [(1, (.int .i64 v7)), (2, (.ptr 0 0)), (5, (.bool v8)), (6, (.bool v9)), (7, (.bool (((l57 v5).length : Int) == 1)))]) (by kernel_rfl) ?_
                    exact AE_done ⟨(((l57 v5).length : Int) == 1), rfl, rfl, k13, Nat.le_refl _, h⟩
                  · replace h := bifF h21 h
                    refine AW_reg ?_
                    refine AR_many hT 3 [1, 2, 5, 6, 67] [(1, (.int .i64 v7)), (2, (.ptr 0 0)), (5, (.bool v8)), (6, (.bool v9)), (67, (.bool (v1 == 3)))] [.cells [(.int .i64 v1), (.str v2), (.int .i64 v3), (.str v4), (.sl (l57 v5)), (.int .i64 v6)]] (by kernel_rfl) ?_
                    refine AR_op (by kernel_rfl) (OpJ_boolK hT (q := (v1 == 3)) (by kernel_rfl) h15) ?_
                    refine AR_many hT 3 [1, 2, 5, 6, 68, 71] [(1, (.int .i64 v7)), (2, (.ptr 0 0)), (5, (.bool v8)), (6, (.bool v9)), (68, (.bool true)), (71, (.bool (v2.toList == (ByteArray.mk #[45]).toList)))] [.cells [(.int .i64 v1), (.str v2), (.int .i64 v3), (.str v4), (.sl (l57 v5)), (.int .i64 v6)]] (by kernel_rfl) ?_
                    refine AR_op (by kernel_rfl) (OpJ_boolK hT (q := (v2.toList == (ByteArray.mk #[45]).toList)) (by kernel_rfl) h16) ?_
                    refine AR_many hT 4 [1, 2, 5, 6, 68, 76] [(1, (.int .i64 v7)), (2, (.ptr 0 0)), (5, (.bool v8)), (6, (.bool v9)), (68, (.bool true)), (76, (.bool (v2.toList == (ByteArray.mk #[126]).toList)))] [.cells [(.int .i64 v1), (.str v2), (.int .i64 v3), (.str v4), (.sl (l57 v5)), (.int .i64 v6)]] (by kernel_rfl) ?_
                    refine AR_op (by kernel_rfl) (OpJ_boolK hT (q := (v2.toList == (ByteArray.mk #[126]).toList)) (by kernel_rfl) h19) ?_
                    refine AR_many hT 10 [1, 2, 5, 6, 87] [(1, (.int .i64 v7)), (2, (.ptr 0 0)), (5, (.bool v8)), (6, (.bool v9)), (87, (.bool (v3 == 0)))] [.cells [(.int .i64 v1), (.str v2), (.int .i64 v3), (.str v4), (.sl (l57 v5)), (.int .i64 v6)]] (by kernel_rfl) ?_
                    refine AR_op (by kernel_rfl) (OpJ_boolK hT (q := (v3 == 0)) (by kernel_rfl) h20) ?_
                    refine AR_many hT 4 [1, 2, 5, 6, 92] [(1, (.int .i64 v7)), (2, (.ptr 0 0)), (5, (.bool v8)), (6, (.bool v9)), (92, (.bool (v4.toList == (ByteArray.mk #[]).toList)))] [.cells [(.int .i64 v1), (.str v2), (.int .i64 v3), (.str v4), (.sl (l57 v5)), (.int .i64 v6)]] (by kernel_rfl) ?_
                    refine AR_op (by kernel_rfl) (OpJ_boolK hT (q := (v4.toList == (ByteArray.mk #[]).toList)) (by kernel_rfl) h21) ?_
                    refine AR_many hT 6 [1, 2, 5, 6, 7] [(1, (.int .i64 v7)), (2, (.ptr 0 0)), (5, (.bool v8)), (6, (.bool v9)), (7, (.bool false))] [.cells [(.int .i64 v1), (.str v2), (.int .i64 v3), (.str v4), (.sl (l57 v5)), (.int .i64 v6)]] (by kernel_rfl) ?_
                    refine AR_fin (by kernel_rfl) ?_
                    refine AE_keep [1, 2, 5, 6, 7] (env' := [(1, (.int .i64 v7)), (2, (.ptr 0 0)), (5, (.bool v8)), (6, (.bool v9)), (7, (.bool false))]) (by kernel_rfl) ?_
                    exact AE_done ⟨false, rfl, rfl, k13, Nat.le_refl _, h⟩
                · replace h := bifF h20 h
                  refine AW_reg ?_
                  refine AR_many hT 3 [1, 2, 5, 6, 67] [(1, (.int .i64 v7)), (2, (.ptr 0 0)), (5, (.bool v8)), (6, (.bool v9)), (67, (.bool (v1 == 3)))] [.cells [(.int .i64 v1), (.str v2), (.int .i64 v3), (.str v4), (.sl (l57 v5)), (.int .i64 v6)]] (by kernel_rfl) ?_
                  refine AR_op (by kernel_rfl) (OpJ_boolK hT (q := (v1 == 3)) (by kernel_rfl) h15) ?_
                  refine AR_many hT 3 [1, 2, 5, 6, 68, 71] [(1, (.int .i64 v7)), (2, (.ptr 0 0)), (5, (.bool v8)), (6, (.bool v9)), (68, (.bool true)), (71, (.bool (v2.toList == (ByteArray.mk #[45]).toList)))] [.cells [(.int .i64 v1), (.str v2), (.int .i64 v3), (.str v4), (.sl (l57 v5)), (.int .i64 v6)]] (by kernel_rfl) ?_
                  refine AR_op (by kernel_rfl) (OpJ_boolK hT (q := (v2.toList == (ByteArray.mk #[45]).toList)) (by kernel_rfl) h16) ?_
                  refine AR_many hT 4 [1, 2, 5, 6, 68, 76] [(1, (.int .i64 v7)), (2, (.ptr 0 0)), (5, (.bool v8)), (6, (.bool v9)), (68, (.bool true)), (76, (.bool (v2.toList == (ByteArray.mk #[126]).toList)))] [.cells [(.int .i64 v1), (.str v2), (.int .i64 v3), (.str v4), (.sl (l57 v5)), (.int .i64 v6)]] (by kernel_rfl) ?_
                  refine AR_op (by kernel_rfl) (OpJ_boolK hT (q := (v2.toList == (ByteArray.mk #[126]).toList)) (by kernel_rfl) h19) ?_
                  refine AR_many hT 10 [1, 2, 5, 6, 87] [(1, (.int .i64 v7)), (2, (.ptr 0 0)), (5, (.bool v8)), (6, (.bool v9)), (87, (.bool (v3 == 0)))] [.cells [(.int .i64 v1), (.str v2), (.int .i64 v3), (.str v4), (.sl (l57 v5)), (.int .i64 v6)]] (by kernel_rfl) ?_
                  refine AR_op (by kernel_rfl) (OpJ_boolK hT (q := (v3 == 0)) (by kernel_rfl) h20) ?_
                  refine AR_many hT 11 [1, 2, 5, 6, 7] [(1, (.int .i64 v7)), (2, (.ptr 0 0)), (5, (.bool v8)), (6, (.bool v9)), (7, (.bool false))] [.cells [(.int .i64 v1), (.str v2), (.int .i64 v3), (.str v4), (.sl (l57 v5)), (.int .i64 v6)]] (by kernel_rfl) ?_
                  refine AR_fin (by kernel_rfl) ?_
                  refine AE_keep [1, 2, 5, 6, 7] (env' := [(1, (.int .i64 v7)), (2, (.ptr 0 0)), (5, (.bool v8)), (6, (.bool v9)), (7, (.bool false))]) (by kernel_rfl) ?_
                  exact AE_done ⟨false, rfl, rfl, k13, Nat.le_refl _, h⟩
              · replace h := bifF h19 h
                rcases Bool.eq_false_or_eq_true (v2.toList == (ByteArray.mk #[33]).toList) with h22 | h22
                · replace h := bifT h22 h
                  rcases Bool.eq_false_or_eq_true (v3 == 0) with h23 | h23
                  · replace h := bifT h23 h
                    rcases Bool.eq_false_or_eq_true (v4.toList == (ByteArray.mk #[]).toList) with h24 | h24
                    · replace h := bifT h24 h
                      refine AW_reg ?_
                      refine AR_many hT 3 [1, 2, 5, 6, 67] [(1, (.int .i64 v7)), (2, (.ptr 0 0)), (5, (.bool v8)), (6, (.bool v9)), (67, (.bool (v1 == 3)))] [.cells [(.int .i64 v1), (.str v2), (.int .i64 v3), (.str v4), (.sl (l57 v5)), (.int .i64 v6)]] (by kernel_rfl) ?_
                      refine AR_op (by kernel_rfl) (OpJ_boolK hT (q := (v1 == 3)) (by kernel_rfl) h15) ?_
                      refine AR_many hT 3 [1, 2, 5, 6, 68, 71] [(1, (.int .i64 v7)), (2, (.ptr 0 0)), (5, (.bool v8)), (6, (.bool v9)), (68, (.bool true)), (71, (.bool (v2.toList == (ByteArray.mk #[45]).toList)))] [.cells [(.int .i64 v1), (.str v2), (.int .i64 v3), (.str v4), (.sl (l57 v5)), (.int .i64 v6)]] (by kernel_rfl) ?_
                      refine AR_op (by kernel_rfl) (OpJ_boolK hT (q := (v2.toList == (ByteArray.mk #[45]).toList)) (by kernel_rfl) h16) ?_
                      refine AR_many hT 4 [1, 2, 5, 6, 68, 76] [(1, (.int .i64 v7)), (2, (.ptr 0 0)), (5, (.bool v8)), (6, (.bool v9)), (68, (.bool true)), (76, (.bool (v2.toList == (ByteArray.mk #[126]).toList)))] [.cells [(.int .i64 v1), (.str v2), (.int .i64 v3), (.str v4), (.sl (l57 v5)), (.int .i64 v6)]] (by kernel_rfl) ?_
                      refine AR_op (by kernel_rfl) (OpJ_boolK hT (q := (v2.toList == (ByteArray.mk #[126]).toList)) (by kernel_rfl) h19) ?_
                      refine AR_many hT 5 [1, 2, 5, 6, 82] [(1, (.int .i64 v7)), (2, (.ptr 0 0)), (5, (.bool v8)), (6, (.bool v9)), (82, (.bool (v2.toList == (ByteArray.mk #[33]).toList)))] [.cells [(.int .i64 v1), (.str v2), (.int .i64 v3), (.str v4), (.sl (l57 v5)), (.int .i64 v6)]] (by kernel_rfl) ?_
                      refine AR_op (by kernel_rfl) (OpJ_boolK hT (q := (v2.toList == (ByteArray.mk #[33]).toList)) (by kernel_rfl) h22) ?_
                      refine AR_many hT 4 [1, 2, 5, 6, 87] [(1, (.int .i64 v7)), (2, (.ptr 0 0)), (5, (.bool v8)), (6, (.bool v9)), (87, (.bool (v3 == 0)))] [.cells [(.int .i64 v1), (.str v2), (.int .i64 v3), (.str v4), (.sl (l57 v5)), (.int .i64 v6)]] (by kernel_rfl) ?_
                      refine AR_op (by kernel_rfl) (OpJ_boolK hT (q := (v3 == 0)) (by kernel_rfl) h23) ?_
                      refine AR_many hT 4 [1, 2, 5, 6, 92] [(1, (.int .i64 v7)), (2, (.ptr 0 0)), (5, (.bool v8)), (6, (.bool v9)), (92, (.bool (v4.toList == (ByteArray.mk #[]).toList)))] [.cells [(.int .i64 v1), (.str v2), (.int .i64 v3), (.str v4), (.sl (l57 v5)), (.int .i64 v6)]] (by kernel_rfl) ?_
                      refine AR_op (by kernel_rfl) (OpJ_boolK hT (q := (v4.toList == (ByteArray.mk #[]).toList)) (by kernel_rfl) h24) ?_
                      refine AR_many hT 6 [1, 2, 5, 6, 7] [(1, (.int .i64 v7)), (2, (.ptr 0 0)), (5, (.bool v8)), (6, (.bool v9)), (7, (.bool (((l57 v5).length : Int) == 1)))] [.cells [(.int .i64 v1), (.str v2), (.int .i64 v3), (.str v4), (.sl (l57 v5)), (.int .i64 v6)]] (by kernel_rfl) ?_
                      refine AR_fin (by kernel_rfl) ?_
                      refine AE_keep [1, 2, 5, 6, 7] (env' := [(1, (.int .i64 v7)), (2, (.ptr 0 0)), (5, (.bool v8)), (6, (.bool v9)), (7, (.bool (((l57 v5).length : Int) == 1)))]) (by kernel_rfl) ?_
                      exact AE_done ⟨(((l57 v5).length : Int) == 1), rfl, rfl, k13, Nat.le_refl _, h⟩
                    · replace h := bifF h24 h
                      refine AW_reg ?_
                      refine AR_many hT 3 [1, 2, 5, 6, 67] [(1, (.int .i64 v7)), (2, (.ptr 0 0)), (5, (.bool v8)), (6, (.bool v9)), (67, (.bool (v1 == 3)))] [.cells [(.int .i64 v1), (.str v2), (.int .i64 v3), (.str v4), (.sl (l57 v5)), (.int .i64 v6)]] (by kernel_rfl) ?_
                      refine AR_op (by kernel_rfl) (OpJ_boolK hT (q := (v1 == 3)) (by kernel_rfl) h15) ?_
                      refine AR_many hT 3 [1, 2, 5, 6, 68, 71] [(1, (.int .i64 v7)), (2, (.ptr 0 0)), (5, (.bool v8)), (6, (.bool v9)), (68, (.bool true)), (71, (.bool (v2.toList == (ByteArray.mk #[45]).toList)))] [.cells [(.int .i64 v1), (.str v2), (.int .i64 v3), (.str v4), (.sl (l57 v5)), (.int .i64 v6)]] (by kernel_rfl) ?_
                      refine AR_op (by kernel_rfl) (OpJ_boolK hT (q := (v2.toList == (ByteArray.mk #[45]).toList)) (by kernel_rfl) h16) ?_
                      refine AR_many hT 4 [1, 2, 5, 6, 68, 76] [(1, (.int .i64 v7)), (2, (.ptr 0 0)), (5, (.bool v8)), (6, (.bool v9)), (68, (.bool true)), (76, (.bool (v2.toList == (ByteArray.mk #[126]).toList)))] [.cells [(.int .i64 v1), (.str v2), (.int .i64 v3), (.str v4), (.sl (l57 v5)), (.int .i64 v6)]] (by kernel_rfl) ?_
                      refine AR_op (by kernel_rfl) (OpJ_boolK hT (q := (v2.toList == (ByteArray.mk #[126]).toList)) (by kernel_rfl) h19) ?_
                      refine AR_many hT 5 [1, 2, 5, 6, 82] [(1, (.int .i64 v7)), (2, (.ptr 0 0)), (5, (.bool v8)), (6, (.bool v9)), (82, (.bool (v2.toList == (ByteArray.mk #[33]).toList)))] [.cells [(.int .i64 v1), (.str v2), (.int .i64 v3), (.str v4), (.sl (l57 v5)), (.int .i64 v6)]] (by kernel_rfl) ?_
                      refine AR_op (by kernel_rfl) (OpJ_boolK hT (q := (v2.toList == (ByteArray.mk #[33]).toList)) (by kernel_rfl) h22) ?_
                      refine AR_many hT 4 [1, 2, 5, 6, 87] [(1, (.int .i64 v7)), (2, (.ptr 0 0)), (5, (.bool v8)), (6, (.bool v9)), (87, (.bool (v3 == 0)))] [.cells [(.int .i64 v1), (.str v2), (.int .i64 v3), (.str v4), (.sl (l57 v5)), (.int .i64 v6)]] (by kernel_rfl) ?_
                      refine AR_op (by kernel_rfl) (OpJ_boolK hT (q := (v3 == 0)) (by kernel_rfl) h23) ?_
                      refine AR_many hT 4 [1, 2, 5, 6, 92] [(1, (.int .i64 v7)), (2, (.ptr 0 0)), (5, (.bool v8)), (6, (.bool v9)), (92, (.bool (v4.toList == (ByteArray.mk #[]).toList)))] [.cells [(.int .i64 v1), (.str v2), (.int .i64 v3), (.str v4), (.sl (l57 v5)), (.int .i64 v6)]] (by kernel_rfl) ?_
                      refine AR_op (by kernel_rfl) (OpJ_boolK hT (q := (v4.toList == (ByteArray.mk #[]).toList)) (by kernel_rfl) h24) ?_
                      refine AR_many hT 6 [1, 2, 5, 6, 7] [(1, (.int .i64 v7)), (2, (.ptr 0 0)), (5, (.bool v8)), (6, (.bool v9)), (7, (.bool false))] [.cells [(.int .i64 v1), (.str v2), (.int .i64 v3), (.str v4), (.sl (l57 v5)), (.int .i64 v6)]] (by kernel_rfl) ?_
                      refine AR_fin (by kernel_rfl) ?_
                      refine AE_keep [1, 2, 5, 6, 7] (env' := [(1, (.int .i64 v7)), (2, (.ptr 0 0)), (5, (.bool v8)), (6, (.bool v9)), (7, (.bool false))]) (by kernel_rfl) ?_
                      exact AE_done ⟨false, rfl, rfl, k13, Nat.le_refl _, h⟩
                  · replace h := bifF h23 h
                    refine AW_reg ?_
                    refine AR_many hT 3 [1, 2, 5, 6, 67] [(1, (.int .i64 v7)), (2, (.ptr 0 0)), (5, (.bool v8)), (6, (.bool v9)), (67, (.bool (v1 == 3)))] [.cells [(.int .i64 v1), (.str v2), (.int .i64 v3), (.str v4), (.sl (l57 v5)), (.int .i64 v6)]] (by kernel_rfl) ?_
                    refine AR_op (by kernel_rfl) (OpJ_boolK hT (q := (v1 == 3)) (by kernel_rfl) h15) ?_
                    refine AR_many hT 3 [1, 2, 5, 6, 68, 71] [(1, (.int .i64 v7)), (2, (.ptr 0 0)), (5, (.bool v8)), (6, (.bool v9)), (68, (.bool true)), (71, (.bool (v2.toList == (ByteArray.mk #[45]).toList)))] [.cells [(.int .i64 v1), (.str v2), (.int .i64 v3), (.str v4), (.sl (l57 v5)), (.int .i64 v6)]] (by kernel_rfl) ?_
                    refine AR_op (by kernel_rfl) (OpJ_boolK hT (q := (v2.toList == (ByteArray.mk #[45]).toList)) (by kernel_rfl) h16) ?_
                    refine AR_many hT 4 [1, 2, 5, 6, 68, 76] [(1, (.int .i64 v7)), (2, (.ptr 0 0)), (5, (.bool v8)), (6, (.bool v9)), (68, (.bool true)), (76, (.bool (v2.toList == (ByteArray.mk #[126]).toList)))] [.cells [(.int .i64 v1), (.str v2), (.int .i64 v3), (.str v4), (.sl (l57 v5)), (.int .i64 v6)]] (by kernel_rfl) ?_
                    refine AR_op (by kernel_rfl) (OpJ_boolK hT (q := (v2.toList == (ByteArray.mk #[126]).toList)) (by kernel_rfl) h19) ?_
                    refine AR_many hT 5 [1, 2, 5, 6, 82] [(1, (.int .i64 v7)), (2, (.ptr 0 0)), (5, (.bool v8)), (6, (.bool v9)), (82, (.bool (v2.toList == (ByteArray.mk #[33]).toList)))] [.cells [(.int .i64 v1), (.str v2), (.int .i64 v3), (.str v4), (.sl (l57 v5)), (.int .i64 v6)]] (by kernel_rfl) ?_
                    refine AR_op (by kernel_rfl) (OpJ_boolK hT (q := (v2.toList == (ByteArray.mk #[33]).toList)) (by kernel_rfl) h22) ?_
                    refine AR_many hT 4 [1, 2, 5, 6, 87] [(1, (.int .i64 v7)), (2, (.ptr 0 0)), (5, (.bool v8)), (6, (.bool v9)), (87, (.bool (v3 == 0)))] [.cells [(.int .i64 v1), (.str v2), (.int .i64 v3), (.str v4), (.sl (l57 v5)), (.int .i64 v6)]] (by kernel_rfl) ?_
                    refine AR_op (by kernel_rfl) (OpJ_boolK hT (q := (v3 == 0)) (by kernel_rfl) h23) ?_
                    refine AR_many hT 11 [1, 2, 5, 6, 7] [(1, (.int .i64 v7)), (2, (.ptr 0 0)), (5, (.bool v8)), (6, (.bool v9)), (7, (.bool false))] [.cells [(.int .i64 v1), (.str v2), (.int .i64 v3), (.str v4), (.sl (l57 v5)), (.int .i64 v6)]] (by kernel_rfl) ?_
                    refine AR_fin (by kernel_rfl) ?_
                    refine AE_keep [1, 2, 5, 6, 7] (env' := [(1, (.int .i64 v7)), (2, (.ptr 0 0)), (5, (.bool v8)), (6, (.bool v9)), (7, (.bool false))]) (by kernel_rfl) ?_
                    exact AE_done ⟨false, rfl, rfl, k13, Nat.le_refl _, h⟩
                · replace h := bifF h22 h
                  refine AW_reg ?_
                  refine AR_many hT 3 [1, 2, 5, 6, 67] [(1, (.int .i64 v7)), (2, (.ptr 0 0)), (5, (.bool v8)), (6, (.bool v9)), (67, (.bool (v1 == 3)))] [.cells [(.int .i64 v1), (.str v2), (.int .i64 v3), (.str v4), (.sl (l57 v5)), (.int .i64 v6)]] (by kernel_rfl) ?_
                  refine AR_op (by kernel_rfl) (OpJ_boolK hT (q := (v1 == 3)) (by kernel_rfl) h15) ?_
                  refine AR_many hT 3 [1, 2, 5, 6, 68, 71] [(1, (.int .i64 v7)), (2, (.ptr 0 0)), (5, (.bool v8)), (6, (.bool v9)), (68, (.bool true)), (71, (.bool (v2.toList == (ByteArray.mk #[45]).toList)))] [.cells [(.int .i64 v1), (.str v2), (.int .i64 v3), (.str v4), (.sl (l57 v5)), (.int .i64 v6)]] (by kernel_rfl) ?_
                  refine AR_op (by kernel_rfl) (OpJ_boolK hT (q := (v2.toList == (ByteArray.mk #[45]).toList)) (by kernel_rfl) h16) ?_
                  refine AR_many hT 4 [1, 2, 5, 6, 68, 76] [(1, (.int .i64 v7)), (2, (.ptr 0 0)), (5, (.bool v8)), (6, (.bool v9)), (68, (.bool true)), (76, (.bool (v2.toList == (ByteArray.mk #[126]).toList)))] [.cells [(.int .i64 v1), (.str v2), (.int .i64 v3), (.str v4), (.sl (l57 v5)), (.int .i64 v6)]] (by kernel_rfl) ?_
                  refine AR_op (by kernel_rfl) (OpJ_boolK hT (q := (v2.toList == (ByteArray.mk #[126]).toList)) (by kernel_rfl) h19) ?_
                  refine AR_many hT 5 [1, 2, 5, 6, 82] [(1, (.int .i64 v7)), (2, (.ptr 0 0)), (5, (.bool v8)), (6, (.bool v9)), (82, (.bool (v2.toList == (ByteArray.mk #[33]).toList)))] [.cells [(.int .i64 v1), (.str v2), (.int .i64 v3), (.str v4), (.sl (l57 v5)), (.int .i64 v6)]] (by kernel_rfl) ?_
                  refine AR_op (by kernel_rfl) (OpJ_boolK hT (q := (v2.toList == (ByteArray.mk #[33]).toList)) (by kernel_rfl) h22) ?_
                  refine AR_many hT 16 [1, 2, 5, 6, 7] [(1, (.int .i64 v7)), (2, (.ptr 0 0)), (5, (.bool v8)), (6, (.bool v9)), (7, (.bool false))] [.cells [(.int .i64 v1), (.str v2), (.int .i64 v3), (.str v4), (.sl (l57 v5)), (.int .i64 v6)]] (by kernel_rfl) ?_
                  refine AR_fin (by kernel_rfl) ?_
                  refine AE_keep [1, 2, 5, 6, 7] (env' := [(1, (.int .i64 v7)), (2, (.ptr 0 0)), (5, (.bool v8)), (6, (.bool v9)), (7, (.bool false))]) (by kernel_rfl) ?_
                  exact AE_done ⟨false, rfl, rfl, k13, Nat.le_refl _, h⟩
          · replace h := bifF h15 h
            refine AW_reg ?_
            refine AR_many hT 3 [1, 2, 5, 6, 67] [(1, (.int .i64 v7)), (2, (.ptr 0 0)), (5, (.bool v8)), (6, (.bool v9)), (67, (.bool (v1 == 3)))] [.cells [(.int .i64 v1), (.str v2), (.int .i64 v3), (.str v4), (.sl (l57 v5)), (.int .i64 v6)]] (by kernel_rfl) ?_
            refine AR_op (by kernel_rfl) (OpJ_boolK hT (q := (v1 == 3)) (by kernel_rfl) h15) ?_
            refine AR_many hT 31 [1, 2, 5, 6, 7] [(1, (.int .i64 v7)), (2, (.ptr 0 0)), (5, (.bool v8)), (6, (.bool v9)), (7, (.bool false))] [.cells [(.int .i64 v1), (.str v2), (.int .i64 v3), (.str v4), (.sl (l57 v5)), (.int .i64 v6)]] (by kernel_rfl) ?_
            refine AR_fin (by kernel_rfl) ?_
            refine AE_keep [1, 2, 5, 6, 7] (env' := [(1, (.int .i64 v7)), (2, (.ptr 0 0)), (5, (.bool v8)), (6, (.bool v9)), (7, (.bool false))]) (by kernel_rfl) ?_
            exact AE_done ⟨false, rfl, rfl, k13, Nat.le_refl _, h⟩
        · rintro _ _ ⟨v11, rfl, rfl, n, hn, h⟩
          obtain _ | k25 := n
          · rw [F82_j2] at h; cases h
          have h26 : k25 < (k + 1) := by omega
          rw [F82_j2] at h
          refine AW_join (fun env L => ∃ (v12 : Bool), env = [(1, (.int .i64 v7)), (2, (.ptr 0 0)), (5, (.bool v8)), (6, (.bool v9)), (7, (.bool v11)), (8, (.bool v12))] ∧ L = [.cells [(.int .i64 v1), (.str v2), (.int .i64 v3), (.str v4), (.sl (l57 v5)), (.int .i64 v6)]] ∧ ∃ n, n ≤ k25 ∧ F82_j3 n v7 v8 v9 v11 v5 v12 = some (r1)) ?_ ?_
          · rcases Bool.eq_false_or_eq_true (v1 == 4) with h27 | h27
            · replace h := bifT h27 h
              obtain ⟨v13, h28, h⟩ := Option.bind_eq_some_iff.mp h
              try dsimp only at h
              rcases Bool.eq_false_or_eq_true (decide (v13 > 0)) with h29 | h29
              · replace h := bifT h29 h
                rcases Bool.eq_false_or_eq_true (v3 == 0) with h30 | h30
                · replace h := bifT h30 h
                  rcases Bool.eq_false_or_eq_true (v4.toList == (ByteArray.mk #[]).toList) with h31 | h31
                  · replace h := bifT h31 h
                    refine AW_reg ?_
                    refine AR_many hT 3 [1, 2, 5, 6, 7, 101] [(1, (.int .i64 v7)), (2, (.ptr 0 0)), (5, (.bool v8)), (6, (.bool v9)), (7, (.bool v11)), (101, (.bool (v1 == 4)))] [.cells [(.int .i64 v1), (.str v2), (.int .i64 v3), (.str v4), (.sl (l57 v5)), (.int .i64 v6)]] (by kernel_rfl) ?_
                    refine AR_op (by kernel_rfl) (OpJ_boolK hT (q := (v1 == 4)) (by kernel_rfl) h27) ?_
                    refine AR_many hT 2 [1, 2, 5, 6, 7, 102, 104] [(1, (.int .i64 v7)), (2, (.ptr 0 0)), (5, (.bool v8)), (6, (.bool v9)), (7, (.bool v11)), (102, (.bool true)), (104, (.str v2))] [.cells [(.int .i64 v1), (.str v2), (.int .i64 v3), (.str v4), (.sl (l57 v5)), (.int .i64 v6)]] (by kernel_rfl) ?_
                    refine AR_op (by kernel_rfl) (OpJ_callK (g := 122) (args := [(.str v2)]) (by kernel_rfl) Go.Proofs.Try.func122 (by kernel_rfl) (by kernel_rfl) (Fn_pure (F122_ok k25 v2 v13 h28) (by simp [AV.low, AV.lows, AObj.low]) (by simp [AV.low, AV.lows, AObj.low]))) ?_
                    refine AR_many hT 2 [1, 2, 5, 6, 7, 107] [(1, (.int .i64 v7)), (2, (.ptr 0 0)), (5, (.bool v8)), (6, (.bool v9)), (7, (.bool v11)), (107, (.bool (decide (v13 > 0))))] [.cells [(.int .i64 v1), (.str v2), (.int .i64 v3), (.str v4), (.sl (l57 v5)), (.int .i64 v6)]] (by kernel_rfl) ?_
                    refine AR_op (by kernel_rfl) (OpJ_boolK hT (q := (decide (v13 > 0))) (by kernel_rfl) h29) ?_
                    refine AR_many hT 4 [1, 2, 5, 6, 7, 112] [(1, (.int .i64 v7)), (2, (.ptr 0 0)), (5, (.bool v8)), (6, (.bool v9)), (7, (.bool v11)), (112, (.bool (v3 == 0)))] [.cells [(.int .i64 v1), (.str v2), (.int .i64 v3), (.str v4), (.sl (l57 v5)), (.int .i64 v6)]] (by kernel_rfl) ?_
                    refine AR_op (by kernel_rfl) (OpJ_boolK hT (q := (v3 == 0)) (by kernel_rfl) h30) ?_
                    refine AR_many hT 4 [1, 2, 5, 6, 7, 117] [(1, (.int .i64 v7)), (2, (.ptr 0 0)), (5, (.bool v8)), (6, (.bool v9)), (7, (.bool v11)), (117, (.bool (v4.toList == (ByteArray.mk #[]).toList)))] [.cells [(.int .i64 v1), (.str v2), (.int .i64 v3), (.str v4), (.sl (l57 v5)), (.int .i64 v6)]] (by kernel_rfl) ?_
                    refine AR_op (by kernel_rfl) (OpJ_boolK hT (q := (v4.toList == (ByteArray.mk #[]).toList)) (by kernel_rfl) h31) ?_
                    refine AR_many hT 6 [1, 2, 5, 6, 7, 8] [(1, (.int .i64 v7)), (2, (.ptr 0 0)), (5, (.bool v8)), (6, (.bool v9)), (7, (.bool v11)), (8, (.bool (((l57 v5).length : Int) == 2)))] [.cells [(.int .i64 v1), (.str v2), (.int .i64 v3), (.str v4), (.sl (l57 v5)), (.int .i64 v6)]] (by kernel_rfl) ?_
                    refine AR_fin (by kernel_rfl) ?_
                    refine AE_keep [1, 2, 5, 6, 7, 8] (env' := [(1, (.int .i64 v7)), (2, (.ptr 0 0)), (5, (.bool v8)), (6, (.bool v9)), (7, (.bool v11)), (8, (.bool (((l57 v5).length : Int) == 2)))]) (by kernel_rfl) ?_
                    exact AE_done ⟨(((l57 v5).length : Int) == 2), rfl, rfl, k25, Nat.le_refl _, h⟩
                  · replace h := bifF h31 h
                    refine AW_reg ?_
                    refine AR_many hT 3 [1, 2, 5, 6, 7, 101] [(1, (.int .i64 v7)), (2, (.ptr 0 0)), (5, (.bool v8)), (6, (.bool v9)), (7, (.bool v11)), (101, (.bool (v1 == 4)))] [.cells [(.int .i64 v1), (.str v2), (.int .i64 v3), (.str v4), (.sl (l57 v5)), (.int .i64 v6)]] (by kernel_rfl) ?_
                    refine AR_op (by kernel_rfl) (OpJ_boolK hT (q := (v1 == 4)) (by kernel_rfl) h27) ?_
                    refine AR_many hT 2 [1, 2, 5, 6, 7, 102, 104] [(1, (.int .i64 v7)), (2, (.ptr 0 0)), (5, (.bool v8)), (6, (.bool v9)), (7, (.bool v11)), (102, (.bool true)), (104, (.str v2))] [.cells [(.int .i64 v1), (.str v2), (.int .i64 v3), (.str v4), (.sl (l57 v5)), (.int .i64 v6)]] (by kernel_rfl) ?_
                    refine AR_op (by kernel_rfl) (OpJ_callK (g := 122) (args := [(.str v2)]) (by kernel_rfl) Go.Proofs.Try.func122 (by kernel_rfl) (by kernel_rfl) (Fn_pure (F122_ok k25 v2 v13 h28) (by simp [AV.low, AV.lows, AObj.low]) (by simp [AV.low, AV.lows, AObj.low]))) ?_
                    refine AR_many hT 2 [1, 2, 5, 6, 7, 107] [(1, (.int .i64 v7)), (2, (.ptr 0 0)), (5, (.bool v8)), (6, (.bool v9)), (7, (.bool v11)), (107, (.bool (decide (v13 > 0))))] [.cells [(.int .i64 v1), (.str v2), (.int .i64 v3), (.str v4), (.sl (l57 v5)), (.int .i64 v6)]] (by kernel_rfl) ?_
                    refine AR_op (by kernel_rfl) (OpJ_boolK hT (q := (decide (v13 > 0))) (by kernel_rfl) h29) ?_
                    refine AR_many hT 4 [1, 2, 5, 6, 7, 112] [(1, (.int .i64 v7)), (2, (.ptr 0 0)), (5, (.bool v8)), (6, (.bool v9)), (7, (.bool v11)), (112, (.bool (v3 == 0)))] [.cells [(.int .i64 v1), (.str v2), (.int .i64 v3), (.str v4), (.sl (l57 v5)), (.int .i64 v6)]] (by kernel_rfl) ?_
                    refine AR_op (by kernel_rfl) (OpJ_boolK hT (q := (v3 == 0)) (by kernel_rfl) h30) ?_
                    refine AR_many hT 4 [1, 2, 5, 6, 7, 117] [(1, (.int .i64 v7)), (2, (.ptr 0 0)), (5, (.bool v8)), (6, (.bool v9)), (7, (.bool v11)), (117, (.bool (v4.toList == (ByteArray.mk #[]).toList)))] [.cells [(.int .i64 v1), (.str v2), (.int .i64 v3), (.str v4), (.sl (l57 v5)), (.int .i64 v6)]] (by kernel_rfl) ?_
                    refine AR_op (by kernel_rfl) (OpJ_boolK hT (q := (v4.toList == (ByteArray.mk #[]).toList)) (by kernel_rfl) h31) ?_
                    refine AR_many hT 6 [1, 2, 5, 6, 7, 8] [(1, (.int .i64 v7)), (2, (.ptr 0 0)), (5, (.bool v8)), (6, (.bool v9)), (7, (.bool v11)), (8, (.bool false))] [.cells [(.int .i64 v1), (.str v2), (.int .i64 v3), (.str v4), (.sl (l57 v5)), (.int .i64 v6)]] (by kernel_rfl) ?_
                    refine AR_fin (by kernel_rfl) ?_
                    refine AE_keep [1, 2, 5, 6, 7, 8] (env' := [(1, (.int .i64 v7)), (2, (.ptr 0 0)), (5, (.bool v8)), (6, (.bool v9)), (7, (.bool v11)), (8, (.bool false))]) (by kernel_rfl) ?_
                    exact AE_done ⟨false, rfl, rfl, k25, Nat.le_refl _, h⟩
                · replace h := bifF h30 h
                  refine AW_reg ?_
                  refine AR_many hT 3 [1, 2, 5, 6, 7, 101] [(1, (.int .i64 v7)), (2, (.ptr 0 0)), (5, (.bool v8)), (6, (.bool v9)), (7, (.bool v11)), (101, (.bool (v1 == 4)))] [.cells [(.int .i64 v1), (.str v2), (.int .i64 v3), (.str v4), (.sl (l57 v5)), (.int .i64 v6)]] (by kernel_rfl) ?_
                  refine AR_op (by kernel_rfl) (OpJ_boolK hT (q := (v1 == 4)) (by kernel_rfl) h27) ?_
                  refine AR_many hT 2 [1, 2, 5, 6, 7, 102, 104] [(1, (.int .i64 v7)), (2, (.ptr 0 0)), (5, (.bool v8)), (6, (.bool v9)), (7, (.bool v11)), (102, (.bool true)), (104, (.str v2))] [.cells [(.int .i64 v1), (.str v2), (.int .i64 v3), (.str v4), (.sl (l57 v5)), (.int .i64 v6)]] (by kernel_rfl) ?_
                  refine AR_op (by kernel_rfl) (OpJ_callK (g := 122) (args := [(.str v2)]) (by kernel_rfl) Go.Proofs.Try.func122 (by kernel_rfl) (by kernel_rfl) (Fn_pure (F122_ok k25 v2 v13 h28) (by simp [AV.low, AV.lows, AObj.low]) (by simp [AV.low, AV.lows, AObj.low]))) ?_
                  refine AR_many hT 2 [1, 2, 5, 6, 7, 107] [(1, (.int .i64 v7)), (2, (.ptr 0 0)), (5, (.bool v8)), (6, (.bool v9)), (7, (.bool v11)), (107, (.bool (decide (v13 > 0))))] [.cells [(.int .i64 v1), (.str v2), (.int .i64 v3), (.str v4), (.sl (l57 v5)), (.int .i64 v6)]] (by kernel_rfl) ?_
                  refine AR_op (by kernel_rfl) (OpJ_boolK hT (q := (decide (v13 > 0))) (by kernel_rfl) h29) ?_
                  refine AR_many hT 4 [1, 2, 5, 6, 7, 112] [(1, (.int .i64 v7)), (2, (.ptr 0 0)), (5, (.bool v8)), (6, (.bool v9)), (7, (.bool v11)), (112, (.bool (v3 == 0)))] [.cells [(.int .i64 v1), (.str v2), (.int .i64 v3), (.str v4), (.sl (l57 v5)), (.int .i64 v6)]] (by kernel_rfl) ?_
                  refine AR_op (by kernel_rfl) (OpJ_boolK hT (q := (v3 == 0)) (by kernel_rfl) h30) ?_
                  refine AR_many hT 11 [1, 2, 5, 6, 7, 8] [(1, (.int .i64 v7)), (2, (.ptr 0 0)), (5, (.bool v8)), (6, (.bool v9)), (7, (.bool v11)), (8, (.bool false))] [.cells [(.int .i64 v1), (.str v2), (.int .i64 v3), (.str v4), (.sl (l57 v5)), (.int .i64 v6)]] (by kernel_rfl) ?_
                  refine AR_fin (by kernel_rfl) ?_
                  refine AE_keep [1, 2, 5, 6, 7, 8] (env' := [(1, (.int .i64 v7)), (2, (.ptr 0 0)), (5, (.bool v8)), (6, (.bool v9)), (7, (.bool v11)), (8, (.bool false))]) (by kernel_rfl) ?_
                  exact AE_done ⟨false, rfl, rfl, k25, Nat.le_refl _, h⟩
              · replace h := bifF h29 h
                refine AW_reg ?_
                refine AR_many hT 3 [1, 2, 5, 6, 7, 101] [(1, (.int .i64 v7)), (2, (.ptr 0 0)), (5, (.bool v8)), (6, (.bool v9)), (7, (.bool v11)), (101, (.bool (v1 == 4)))] [.cells [(.int .i64 v1), (.str v2), (.int .i64 v3), (.str v4), (.sl (l57 v5)), (.int .i64 v6)]] (by kernel_rfl) ?_
                refine AR_op (by kernel_rfl) (OpJ_boolK hT (q := (v1 == 4)) (by kernel_rfl) h27) ?_
                refine AR_many hT 2 [1, 2, 5, 6, 7, 102, 104] [(1, (.int .i64 v7)), (2, (.ptr 0 0)), (5, (.bool v8)), (6, (.bool v9)), (7, (.bool v11)), (102, (.bool true)), (104, (.str v2))] [.cells [(.int .i64 v1), (.str v2), (.int .i64 v3), (.str v4), (.sl (l57 v5)), (.int .i64 v6)]] (by kernel_rfl) ?_
                refine AR_op (by kernel_rfl) (OpJ_callK (g := 122) (args := [(.str v2)]) (by kernel_rfl) Go.Proofs.Try.func122 (by kernel_rfl) (by kernel_rfl) (Fn_pure (F122_ok k25 v2 v13 h28) (by simp [AV.low, AV.lows, AObj.low]) (by simp [AV.low, AV.lows, AObj.low]))) ?_
                refine AR_many hT 2 [1, 2, 5, 6, 7, 107] [(1, (.int .i64 v7)), (2, (.ptr 0 0)), (5, (.bool v8)), (6, (.bool v9)), (7, (.bool v11)), (107, (.bool (decide (v13 > 0))))] [.cells [(.int .i64 v1), (.str v2), (.int .i64 v3), (.str v4), (.sl (l57 v5)), (.int .i64 v6)]] (by kernel_rfl) ?_
                refine AR_op (by kernel_rfl) (OpJ_boolK hT (q := (decide (v13 > 0))) (by kernel_rfl) h29) ?_
                refine AR_many hT 16 [1, 2, 5, 6, 7, 8] [(1, (.int .i64 v7)), (2, (.ptr 0 0)), (5, (.bool v8)), (6, (.bool v9)), (7, (.bool v11)), (8, (.bool false))] [.cells [(.int .i64 v1), (.str v2), (.int .i64 v3), (.str v4), (.sl (l57 v5)), (.int .i64 v6)]] (by kernel_rfl) ?_
                refine AR_fin (by kernel_rfl) ?_
                refine AE_keep [1, 2, 5, 6, 7, 8] (env' := [(1, (.int .i64 v7)), (2, (.ptr 0 0)), (5, (.bool v8)), (6, (.bool v9)), (7, (.bool v11)), (8, (.bool false))]) (by kernel_rfl) ?_
                exact AE_done ⟨false, rfl, rfl, k25, Nat.le_refl _, h⟩
            · replace h := bifF h27 h
              refine AW_reg ?_
              refine AR_many hT 3 [1, 2, 5, 6, 7, 101] [(1, (.int .i64 v7)), (2, (.ptr 0 0)), (5, (.bool v8)), (6, (.bool v9)), (7, (.bool v11)), (101, (.bool (v1 == 4)))] [.cells [(.int .i64 v1), (.str v2), (.int .i64 v3), (.str v4), (.sl (l57 v5)), (.int .i64 v6)]] (by kernel_rfl) ?_
              refine AR_op (by kernel_rfl) (OpJ_boolK hT (q := (v1 == 4)) (by kernel_rfl) h27) ?_
              refine AR_many hT 22 [1, 2, 5, 6, 7, 8] [(1, (.int .i64 v7)), (2, (.ptr 0 0)), (5, (.bool v8)), (6, (.bool v9)), (7, (.bool v11)), (8, (.bool false))] [.cells [(.int .i64 v1), (.str v2), (.int .i64 v3), (.str v4), (.sl (l57 v5)), (.int .i64 v6)]] (by kernel_rfl) ?_
              refine AR_fin (by kernel_rfl) ?_
              refine AE_keep [1, 2, 5, 6, 7, 8] (env' := [(1, (.int .i64 v7)), (2, (.ptr 0 0)), (5, (.bool v8)), (6, (.bool v9)), (7, (.bool v11)), (8, (.bool false))]) (by kernel_rfl) ?_
              exact AE_done ⟨false, rfl, rfl, k25, Nat.le_refl _, h⟩
          · rintro _ _ ⟨v12, rfl, rfl, n, hn, h⟩
            obtain _ | k32 := n
            · rw [F82_j3] at h; cases h
            have h33 : k32 < (k + 1) := by omega
            rw [F82_j3] at h
            refine AW_seq ?_
            refine AW_join (fun env L => ∃ (v14 : Bool), env = [(1, (.int .i64 v7)), (2, (.ptr 0 0)), (141, (.bool v14))] ∧ L = [.cells [(.int .i64 v1), (.str v2), (.int .i64 v3), (.str v4), (.sl (l57 v5)), (.int .i64 v6)]] ∧ ∃ n, n ≤ k32 ∧ F82_j4 n v7 v5 v14 = some (r1)) ?_ ?_
            · rcases Bool.eq_false_or_eq_true (decide (v7 < 1)) with h34 | h34
              · replace h := bifT h34 h
                refine AW_reg ?_
                refine AR_many hT 2 [1, 2, 5, 6, 7, 8, 125] [(1, (.int .i64 v7)), (2, (.ptr 0 0)), (5, (.bool v8)), (6, (.bool v9)), (7, (.bool v11)), (8, (.bool v12)), (125, (.bool (decide (v7 < 1))))] [.cells [(.int .i64 v1), (.str v2), (.int .i64 v3), (.str v4), (.sl (l57 v5)), (.int .i64 v6)]] (by kernel_rfl) ?_
                refine AR_op (by kernel_rfl) (OpJ_boolK hT (q := (decide (v7 < 1))) (by kernel_rfl) h34) ?_
                refine AR_many hT 15 [1, 2, 141] [(1, (.int .i64 v7)), (2, (.ptr 0 0)), (141, (.bool true))] [.cells [(.int .i64 v1), (.str v2), (.int .i64 v3), (.str v4), (.sl (l57 v5)), (.int .i64 v6)]] (by kernel_rfl) ?_
                refine AR_fin (by kernel_rfl) ?_
                refine AE_keep [1, 2, 141] (env' := [(1, (.int .i64 v7)), (2, (.ptr 0 0)), (141, (.bool true))]) (by kernel_rfl) ?_
                exact AE_done ⟨true, rfl, rfl, k32, Nat.le_refl _, h⟩
              · replace h := bifF h34 h
                rcases Bool.eq_false_or_eq_true (!v8) with h35 | h35
                · replace h := bifT h35 h
                  rcases Bool.eq_false_or_eq_true (!v9) with h36 | h36
                  · replace h := bifT h36 h
                    rcases Bool.eq_false_or_eq_true (!v11) with h37 | h37
                    · replace h := bifT h37 h
                      refine AW_reg ?_
                      refine AR_many hT 2 [1, 2, 5, 6, 7, 8, 125] [(1, (.int .i64 v7)), (2, (.ptr 0 0)), (5, (.bool v8)), (6, (.bool v9)), (7, (.bool v11)), (8, (.bool v12)), (125, (.bool (decide (v7 < 1))))] [.cells [(.int .i64 v1), (.str v2), (.int .i64 v3), (.str v4), (.sl (l57 v5)), (.int .i64 v6)]] (by kernel_rfl) ?_
                      refine AR_op (by kernel_rfl) (OpJ_boolK hT (q := (decide (v7 < 1))) (by kernel_rfl) h34) ?_
                      refine AR_many hT 2 [1, 2, 6, 7, 8, 126, 128] [(1, (.int .i64 v7)), (2, (.ptr 0 0)), (6, (.bool v9)), (7, (.bool v11)), (8, (.bool v12)), (126, (.bool false)), (128, (.bool (!v8)))] [.cells [(.int .i64 v1), (.str v2), (.int .i64 v3), (.str v4), (.sl (l57 v5)), (.int .i64 v6)]] (by kernel_rfl) ?_
                      refine AR_op (by kernel_rfl) (OpJ_boolK hT (q := (!v8)) (by kernel_rfl) h35) ?_
                      refine AR_many hT 3 [1, 2, 7, 8, 126, 132] [(1, (.int .i64 v7)), (2, (.ptr 0 0)), (7, (.bool v11)), (8, (.bool v12)), (126, (.bool false)), (132, (.bool (!v9)))] [.cells [(.int .i64 v1), (.str v2), (.int .i64 v3), (.str v4), (.sl (l57 v5)), (.int .i64 v6)]] (by kernel_rfl) ?_
                      refine AR_op (by kernel_rfl) (OpJ_boolK hT (q := (!v9)) (by kernel_rfl) h36) ?_
                      refine AR_many hT 3 [1, 2, 8, 126, 136] [(1, (.int .i64 v7)), (2, (.ptr 0 0)), (8, (.bool v12)), (126, (.bool false)), (136, (.bool (!v11)))] [.cells [(.int .i64 v1), (.str v2), (.int .i64 v3), (.str v4), (.sl (l57 v5)), (.int .i64 v6)]] (by kernel_rfl) ?_
                      refine AR_op (by kernel_rfl) (OpJ_boolK hT (q := (!v11)) (by kernel_rfl) h37) ?_
                      refine AR_many hT 4 [1, 2, 141] [(1, (.int .i64 v7)), (2, (.ptr 0 0)), (141, (.bool (!v12)))] [.cells [(.int .i64 v1), (.str v2), (.int .i64 v3), (.str v4), (.sl (l57 v5)), (.int .i64 v6)]] (by kernel_rfl) ?_
                      refine AR_fin (by kernel_rfl) ?_
                      refine AE_keep [1, 2, 141] (env' := [(1, (.int .i64 v7)), (2, (.ptr 0 0)), (141, (.bool (!v12)))]) (by kernel_rfl) ?_
                      exact AE_done ⟨(!v12), rfl, rfl, k32, Nat.le_refl _, h⟩
                    · replace h := bifF h37 h
                      refine AW_reg ?_
                      refine AR_many hT 2 [1, 2, 5, 6, 7, 8, 125] [(1, (.int .i64 v7)), (2, (.ptr 0 0)), (5, (.bool v8)), (6, (.bool v9)), (7, (.bool v11)), (8, (.bool v12)), (125, (.bool (decide (v7 < 1))))] [.cells [(.int .i64 v1), (.str v2), (.int .i64 v3), (.str v4), (.sl (l57 v5)), (.int .i64 v6)]] (by kernel_rfl) ?_
                      refine AR_op (by kernel_rfl) (OpJ_boolK hT (q := (decide (v7 < 1))) (by kernel_rfl) h34) ?_
                      refine AR_many hT 2 [1, 2, 6, 7, 8, 126, 128] [(1, (.int .i64 v7)), (2, (.ptr 0 0)), (6, (.bool v9)), (7, (.bool v11)), (8, (.bool v12)), (126, (.bool false)), (128, (.bool (!v8)))] [.cells [(.int .i64 v1), (.str v2), (.int .i64 v3), (.str v4), (.sl (l57 v5)), (.int .i64 v6)]] (by kernel_rfl) ?_
                      refine AR_op (by kernel_rfl) (OpJ_boolK hT (q := (!v8)) (by kernel_rfl) h35) ?_
                      refine AR_many hT 3 [1, 2, 7, 8, 126, 132] [(1, (.int .i64 v7)), (2, (.ptr 0 0)), (7, (.bool v11)), (8, (.bool v12)), (126, (.bool false)), (132, (.bool (!v9)))] [.cells [(.int .i64 v1), (.str v2), (.int .i64 v3), (.str v4), (.sl (l57 v5)), (.int .i64 v6)]] (by kernel_rfl) ?_
                      refine AR_op (by kernel_rfl) (OpJ_boolK hT (q := (!v9)) (by kernel_rfl) h36) ?_
                      refine AR_many hT 3 [1, 2, 8, 126, 136] [(1, (.int .i64 v7)), (2, (.ptr 0 0)), (8, (.bool v12)), (126, (.bool false)), (136, (.bool (!v11)))] [.cells [(.int .i64 v1), (.str v2), (.int .i64 v3), (.str v4), (.sl (l57 v5)), (.int .i64 v6)]] (by kernel_rfl) ?_
                      refine AR_op (by kernel_rfl) (OpJ_boolK hT (q := (!v11)) (by kernel_rfl) h37) ?_
                      refine AR_many hT 4 [1, 2, 141] [(1, (.int .i64 v7)), (2, (.ptr 0 0)), (141, (.bool false))] [.cells [(.int .i64 v1), (.str v2), (.int .i64 v3), (.str v4), (.sl (l57 v5)), (.int .i64 v6)]] (by kernel_rfl) ?_
                      refine AR_fin (by kernel_rfl) ?_
                      refine AE_keep [1, 2, 141] (env' := [(1, (.int .i64 v7)), (2, (.ptr 0 0)), (141, (.bool false))]) (by kernel_rfl) ?_
                      exact AE_done ⟨false, rfl, rfl, k32, Nat.le_refl _, h⟩
                  · replace h := bifF h36 h
                    refine AW_reg ?_
                    refine AR_many hT 2 [1, 2, 5, 6, 7, 8, 125] [(1, (.int .i64 v7)), (2, (.ptr 0 0)), (5, (.bool v8)), (6, (.bool v9)), (7, (.bool v11)), (8, (.bool v12)), (125, (.bool (decide (v7 < 1))))] [.cells [(.int .i64 v1), (.str v2), (.int .i64 v3), (.str v4), (.sl (l57 v5)), (.int .i64 v6)]] (by kernel_rfl) ?_
                    refine AR_op (by kernel_rfl) (OpJ_boolK hT (q := (decide (v7 < 1))) (by kernel_rfl) h34) ?_
                    refine AR_many hT 2 [1, 2, 6, 7, 8, 126, 128] [(1, (.int .i64 v7)), (2, (.ptr 0 0)), (6, (.bool v9)), (7, (.bool v11)), (8, (.bool v12)), (126, (.bool false)), (128, (.bool (!v8)))] [.cells [(.int .i64 v1), (.str v2), (.int .i64 v3), (.str v4), (.sl (l57 v5)), (.int .i64 v6)]] (by kernel_rfl) ?_
                    refine AR_op (by kernel_rfl) (OpJ_boolK hT (q := (!v8)) (by kernel_rfl) h35) ?_
                    refine AR_many hT 3 [1, 2, 7, 8, 126, 132] [(1, (.int .i64 v7)), (2, (.ptr 0 0)), (7, (.bool v11)), (8, (.bool v12)), (126, (.bool false)), (132, (.bool (!v9)))] [.cells [(.int .i64 v1), (.str v2), (.int .i64 v3), (.str v4), (.sl (l57 v5)), (.int .i64 v6)]] (by kernel_rfl) ?_
                    refine AR_op (by kernel_rfl) (OpJ_boolK hT (q := (!v9)) (by kernel_rfl) h36) ?_
                    refine AR_many hT 8 [1, 2, 141] [(1, (.int .i64 v7)), (2, (.ptr 0 0)), (141, (.bool false))] [.cells [(.int .i64 v1), (.str v2), (.int .i64 v3), (.str v4), (.sl (l57 v5)), (.int .i64 v6)]] (by kernel_rfl) ?_
                    refine AR_fin (by kernel_rfl) ?_
                    refine AE_keep [1, 2, 141] (env' := [(1, (.int .i64 v7)), (2, (.ptr 0 0)), (141, (.bool false))]) (by kernel_rfl) ?_
                    exact AE_done ⟨false, rfl, rfl, k32, Nat.le_refl _, h⟩
                · replace h := bifF h35 h
                  refine AW_reg ?_
                  refine AR_many hT 2 [1, 2, 5, 6, 7, 8, 125] [(1, (.int .i64 v7)), (2, (.ptr 0 0)), (5, (.bool v8)), (6, (.bool v9)), (7, (.bool v11)), (8, (.bool v12)), (125, (.bool (decide (v7 < 1))))] [.cells [(.int .i64 v1), (.str v2), (.int .i64 v3), (.str v4), (.sl (l57 v5)), (.int .i64 v6)]] (by kernel_rfl) ?_
                  refine AR_op (by kernel_rfl) (OpJ_boolK hT (q := (decide (v7 < 1))) (by kernel_rfl) h34) ?_
                  refine AR_many hT 2 [1, 2, 6, 7, 8, 126, 128] [(1, (.int .i64 v7)), (2, (.ptr 0 0)), (6, (.bool v9)), (7, (.bool v11)), (8, (.bool v12)), (126, (.bool false)), (128, (.bool (!v8)))] [.cells [(.int .i64 v1), (.str v2), (.int .i64 v3), (.str v4), (.sl (l57 v5)), (.int .i64 v6)]] (by kernel_rfl) ?_
                  refine AR_op (by kernel_rfl) (OpJ_boolK hT (q := (!v8)) (by kernel_rfl) h35) ?_
                  refine AR_many hT 12 [1, 2, 141] [(1, (.int .i64 v7)), (2, (.ptr 0 0)), (141, (.bool false))] [.cells [(.int .i64 v1), (.str v2), (.int .i64 v3), (.str v4), (.sl (l57 v5)), (.int .i64 v6)]] (by kernel_rfl) ?_
                  refine AR_fin (by kernel_rfl) ?_
                  refine AE_keep [1, 2, 141] (env' := [(1, (.int .i64 v7)), (2, (.ptr 0 0)), (141, (.bool false))]) (by kernel_rfl) ?_
                  exact AE_done ⟨false, rfl, rfl, k32, Nat.le_refl _, h⟩
            · rintro _ _ ⟨v14, rfl, rfl, n, hn, h⟩
              obtain _ | k38 := n
              · rw [F82_j4] at h; cases h
              have h39 : k38 < (k + 1) := by omega
              rw [F82_j4] at h
              rcases Bool.eq_false_or_eq_true v14 with h40 | h40
              · replace h := bifT h40 h
                refine AW_ifT (q := v14) (by kernel_rfl) h40 ?_
                refine AW_seq ?_
                refine AW_reg ?_
                refine AR_many hT 1 [4] [(4, (.int .i64 (-1)))] [.cells [(.int .i64 v1), (.str v2), (.int .i64 v3), (.str v4), (.sl (l57 v5)), (.int .i64 v6)]] (by kernel_rfl) ?_
                refine AR_fin (by kernel_rfl) ?_
                refine AE_seqN ?_
                refine AE_ret ?_
                refine AE_seqR ?_
                refine AE_keep [4] (env' := [(4, (.int .i64 (-1)))]) (by kernel_rfl) ?_
                simp only [Option.some.injEq] at h
                subst h
                exact AE_done ⟨trivial, by kernel_rfl, by kernel_rfl, by simp [AV.low, AV.lows, AObj.low], by simp [AV.low, AV.lows, AObj.low]⟩
              · replace h := bifF h40 h
                refine AW_ifF (q := v14) (by kernel_rfl) h40 ?_
                refine AE_skip ?_
                refine AE_seqN ?_
                refine AW_seq ?_
                refine AW_reg ?_
                refine AR_many hT 1 [1, 2, 9] [(1, (.int .i64 v7)), (2, (.ptr 0 0)), (9, (.int .i64 1))] [.cells [(.int .i64 v1), (.str v2), (.int .i64 v3), (.str v4), (.sl (l57 v5)), (.int .i64 v6)]] (by kernel_rfl) ?_
                refine AR_fin (by kernel_rfl) ?_
                refine AE_seqN ?_
                refine AW_seq ?_
                refine AW_seq ?_
                refine AW_reg ?_
                refine AR_many hT 1 [1, 2, 9, 10] [(1, (.int .i64 v7)), (2, (.ptr 0 0)), (9, (.int .i64 1)), (10, (.int .i64 0))] [.cells [(.int .i64 v1), (.str v2), (.int .i64 v3), (.str v4), (.sl (l57 v5)), (.int .i64 v6)]] (by kernel_rfl) ?_
                refine AR_fin (by kernel_rfl) ?_
                refine AE_seqN ?_
                refine AW_block ?_
                refine AW_keep [1, 2, 9, 10] (env' := [(1, (.int .i64 v7)), (2, (.ptr 0 0)), (9, (.int .i64 1)), (10, (.int .i64 0))]) (by kernel_rfl) ?_
                refine AW_loop (fun n env L => n ≤ k38 ∧ ∃ (v15 : Int) (v16 : Int), env = [(1, (.int .i64 v7)), (2, (.ptr 0 0)), (9, (.int .i64 v15)), (10, (.int .i64 v16))] ∧ L = [.cells [(.int .i64 v1), (.str v2), (.int .i64 v3), (.str v4), (.sl (l57 v5)), (.int .i64 v6)]] ∧ F82_l5 n v7 v5 v15 v16 = some (r1)) k38 ⟨Nat.le_refl _, 1, 0, rfl, rfl, h⟩ ?_
                rintro n _ _ ⟨hn, v15, v16, rfl, rfl, h⟩
                cases n with
                | zero => rw [F82_l5] at h; cases h
                | succ k41 =>
                  have h42 : k41 < (k + 1) := by omega
                  rw [F82_l5] at h
                  refine AW_seq ?_
                  refine AW_seq ?_
                  refine AW_reg ?_
                  refine AR_many hT 5 [1, 2, 9, 10, 146] [(1, (.int .i64 v7)), (2, (.ptr 0 0)), (9, (.int .i64 v15)), (10, (.int .i64 v16)), (146, (.bool (decide (v16 < ((l57 v5).length : Int)))))] [.cells [(.int .i64 v1), (.str v2), (.int .i64 v3), (.str v4), (.sl (l57 v5)), (.int .i64 v6)]] (by kernel_rfl) ?_
                  refine AR_fin (by kernel_rfl) ?_
                  refine AE_seqN ?_
                  rcases Bool.eq_false_or_eq_true (decide (v16 < ((l57 v5).length : Int))) with h43 | h43
                  · replace h := bifT h43 h
                    refine AW_ifT (q := (decide (v16 < ((l57 v5).length : Int)))) (by kernel_rfl) h43 ?_
                    refine AE_skip ?_
                    refine AE_seqN ?_
                    refine AW_seq ?_
                    refine AW_block ?_
                    refine AW_seq ?_
                    obtain ⟨⟨v17, v18, v19, v20, v21, v22⟩, h44, h⟩ := Option.bind_eq_some_iff.mp h
                    try dsimp only at h
                    obtain ⟨v23, h45, h⟩ := Option.bind_eq_some_iff.mp h
                    try dsimp only at h
                    refine AW_reg ?_
                    refine AR_many hT 3 [1, 2, 9, 10, 150, 151] [(1, (.int .i64 v7)), (2, (.ptr 0 0)), (9, (.int .i64 v15)), (10, (.int .i64 v16)), (150, (.sl (l57 v5))), (151, (.int .i64 v16))] [.cells [(.int .i64 v1), (.str v2), (.int .i64 v3), (.str v4), (.sl (l57 v5)), (.int .i64 v6)]] (by kernel_rfl) ?_
                    refine AR_op (by kernel_rfl) (OpJ_indexK hT (xs := l57 v5) (j := v16) (n := 6) (by kernel_rfl) (i57 h44) (by kernel_rfl)) ?_
                    refine AR_many hT 3 [1, 2, 9, 10, 153, 155] [(1, (.int .i64 v7)), (2, (.ptr 0 0)), (9, (.int .i64 v15)), (10, (.int .i64 v16)), (153, (.agg [(.int .i64 v17), (.str v18), (.int .i64 v19), (.str v20), (.sl (l57 v21)), (.int .i64 v22)])), (155, (.int .i64 (IntKind.wrap .i64 (v7 - 1))))] [.cells [(.int .i64 v1), (.str v2), (.int .i64 v3), (.str v4), (.sl (l57 v5)), (.int .i64 v6)]] (by kernel_rfl) ?_
                    refine AR_op (by kernel_rfl) (OpJ_callK (g := 82) (args := [(.agg [(.int .i64 v17), (.str v18), (.int .i64 v19), (.str v20), (.sl (l57 v21)), (.int .i64 v22)]), (.int .i64 (IntKind.wrap .i64 (v7 - 1)))]) (by kernel_rfl) Go.Proofs.Try.func82 (by kernel_rfl) (by kernel_rfl) (Fn_pure (ih_F82 k41 h42 v17 v18 v19 v20 v21 v22 (IntKind.wrap .i64 (v7 - 1)) v23 h45) (by simp [AV.low, AV.lows, AObj.low]) (by simp [AV.low, AV.lows, AObj.low]))) ?_
                    refine AR_many hT 1 [1, 2, 9, 10, 11] [(1, (.int .i64 v7)), (2, (.ptr 0 0)), (9, (.int .i64 v15)), (10, (.int .i64 v16)), (11, (.int .i64 v23))] [.cells [(.int .i64 v1), (.str v2), (.int .i64 v3), (.str v4), (.sl (l57 v5)), (.int .i64 v6)]] (by kernel_rfl) ?_
                    refine AR_fin (by kernel_rfl) ?_
                    refine AE_seqN ?_
                    refine AW_seq ?_
                    refine AW_join (fun env L => ∃ (v24 : Int) (v25 : Int) (v26 : Int) (v27 : Bool), env = [(1, (.int .i64 v7)), (2, (.ptr 0 0)), (9, (.int .i64 v24)), (10, (.int .i64 v25)), (11, (.int .i64 v26)), (162, (.bool v27))] ∧ L = [.cells [(.int .i64 v1), (.str v2), (.int .i64 v3), (.str v4), (.sl (l57 v5)), (.int .i64 v6)]] ∧ ∃ n, n ≤ k41 ∧ F82_j6 n v7 v5 v24 v25 v26 v27 = some (r1)) ?_ ?_
                    · rcases Bool.eq_false_or_eq_true (decide (v23 < 0)) with h46 | h46
                      · replace h := bifT h46 h
                        refine AW_reg ?_
                        refine AR_many hT 2 [1, 2, 9, 10, 11, 158] [(1, (.int .i64 v7)), (2, (.ptr 0 0)), (9, (.int .i64 v15)), (10, (.int .i64 v16)), (11, (.int .i64 v23)), (158, (.bool (decide (v23 < 0))))] [.cells [(.int .i64 v1), (.str v2), (.int .i64 v3), (.str v4), (.sl (l57 v5)), (.int .i64 v6)]] (by kernel_rfl) ?_
                        refine AR_op (by kernel_rfl) (OpJ_boolK hT (q := (decide (v23 < 0))) (by kernel_rfl) h46) ?_
                        refine AR_many hT 3 [1, 2, 9, 10, 11, 162] [(1, (.int .i64 v7)), (2, (.ptr 0 0)), (9, (.int .i64 v15)), (10, (.int .i64 v16)), (11, (.int .i64 v23)), (162, (.bool true))] [.cells [(.int .i64 v1), (.str v2), (.int .i64 v3), (.str v4), (.sl (l57 v5)), (.int .i64 v6)]] (by kernel_rfl) ?_
                        refine AR_fin (by kernel_rfl) ?_
                        refine AE_keep [1, 2, 9, 10, 11, 162] (env' := [(1, (.int .i64 v7)), (2, (.ptr 0 0)), (9, (.int .i64 v15)), (10, (.int .i64 v16)), (11, (.int .i64 v23)), (162, (.bool true))]) (by kernel_rfl) ?_
                        exact AE_done ⟨v15, v16, v23, true, rfl, rfl, k41, Nat.le_refl _, h⟩
                      · replace h := bifF h46 h
                        refine AW_reg ?_
                        refine AR_many hT 2 [1, 2, 9, 10, 11, 158] [(1, (.int .i64 v7)), (2, (.ptr 0 0)), (9, (.int .i64 v15)), (10, (.int .i64 v16)), (11, (.int .i64 v23)), (158, (.bool (decide (v23 < 0))))] [.cells [(.int .i64 v1), (.str v2), (.int .i64 v3), (.str v4), (.sl (l57 v5)), (.int .i64 v6)]] (by kernel_rfl) ?_
                        refine AR_op (by kernel_rfl) (OpJ_boolK hT (q := (decide (v23 < 0))) (by kernel_rfl) h46) ?_
                        refine AR_many hT 3 [1, 2, 9, 10, 11, 162] [(1, (.int .i64 v7)), (2, (.ptr 0 0)), (9, (.int .i64 v15)), (10, (.int .i64 v16)), (11, (.int .i64 v23)), (162, (.bool (decide (v23 > 10000))))] [.cells [(.int .i64 v1), (.str v2), (.int .i64 v3), (.str v4), (.sl (l57 v5)), (.int .i64 v6)]] (by kernel_rfl) ?_
                        refine AR_fin (by kernel_rfl) ?_
                        refine AE_keep [1, 2, 9, 10, 11, 162] (env' := [(1, (.int .i64 v7)), (2, (.ptr 0 0)), (9, (.int .i64 v15)), (10, (.int .i64 v16)), (11, (.int .i64 v23)), (162, (.bool (decide (v23 > 10000))))]) (by kernel_rfl) ?_
                        exact AE_done ⟨v15, v16, v23, (decide (v23 > 10000)), rfl, rfl, k41, Nat.le_refl _, h⟩
                    · rintro _ _ ⟨v24, v25, v26, v27, rfl, rfl, n, hn, h⟩
                      obtain _ | k47 := n
                      · rw [F82_j6] at h; cases h
                      have h48 : k47 < (k + 1) := by omega
                      rw [F82_j6] at h
                      rcases Bool.eq_false_or_eq_true v27 with h49 | h49
                      · replace h := bifT h49 h
                        refine AW_ifT (q := v27) (by kernel_rfl) h49 ?_
                        refine AW_seq ?_
                        refine AW_reg ?_
                        refine AR_many hT 1 [4] [(4, (.int .i64 (-1)))] [.cells [(.int .i64 v1), (.str v2), (.int .i64 v3), (.str v4), (.sl (l57 v5)), (.int .i64 v6)]] (by kernel_rfl) ?_
                        refine AR_fin (by kernel_rfl) ?_
                        refine AE_seqN ?_
                        refine AE_ret ?_
                        refine AE_seqR ?_
                        refine AE_blkR ?_
                        refine AE_seqR ?_
                        refine AE_seqR ?_
                        refine AE_blkR ?_
                        refine AE_seqR ?_
                        refine AE_keep [4] (env' := [(4, (.int .i64 (-1)))]) (by kernel_rfl) ?_
                        simp only [Option.some.injEq] at h
                        subst h
                        exact AE_done ⟨trivial, by kernel_rfl, by kernel_rfl, by simp [AV.low, AV.lows, AObj.low], by simp [AV.low, AV.lows, AObj.low]⟩
                      · replace h := bifF h49 h
                        refine AW_ifF (q := v27) (by kernel_rfl) h49 ?_
                        refine AE_skip ?_
                        refine AE_seqN ?_
                        refine AW_reg ?_
                        refine AR_many hT 4 [1, 2, 9, 10] [(1, (.int .i64 v7)), (2, (.ptr 0 0)), (9, (.int .i64 (IntKind.wrap .i64 (v24 + v26)))), (10, (.int .i64 v25))] [.cells [(.int .i64 v1), (.str v2), (.int .i64 v3), (.str v4), (.sl (l57 v5)), (.int .i64 v6)]] (by kernel_rfl) ?_
                        refine AR_fin (by kernel_rfl) ?_
                        refine AE_blkN ?_
                        refine AE_seqN ?_
                        refine AW_reg ?_
                        refine AR_many hT 3 [1, 2, 9, 10] [(1, (.int .i64 v7)), (2, (.ptr 0 0)), (9, (.int .i64 (IntKind.wrap .i64 (v24 + v26)))), (10, (.int .i64 (IntKind.wrap .i64 (v25 + 1))))] [.cells [(.int .i64 v1), (.str v2), (.int .i64 v3), (.str v4), (.sl (l57 v5)), (.int .i64 v6)]] (by kernel_rfl) ?_
                        refine AR_fin (by kernel_rfl) ?_
                        refine AE_keep [1, 2, 9, 10] (env' := [(1, (.int .i64 v7)), (2, (.ptr 0 0)), (9, (.int .i64 (IntKind.wrap .i64 (v24 + v26)))), (10, (.int .i64 (IntKind.wrap .i64 (v25 + 1))))]) (by kernel_rfl) ?_
                        exact AE_done ⟨k47, by omega, by omega, (IntKind.wrap .i64 (v24 + v26)), (IntKind.wrap .i64 (v25 + 1)), rfl, rfl, h⟩
                  · replace h := bifF h43 h
                    refine AW_ifF (q := (decide (v16 < ((l57 v5).length : Int)))) (by kernel_rfl) h43 ?_
                    refine AE_exit ?_
                    refine AE_seqX ?_
                    refine AE_seqX ?_
                    refine AE_blkH ?_
                    refine AE_seqN ?_
                    refine AW_seq ?_
                    refine AW_reg ?_
                    refine AR_many hT 2 [4] [(4, (.int .i64 v15))] [.cells [(.int .i64 v1), (.str v2), (.int .i64 v3), (.str v4), (.sl (l57 v5)), (.int .i64 v6)]] (by kernel_rfl) ?_
                    refine AR_fin (by kernel_rfl) ?_
                    refine AE_seqN ?_
                    refine AE_ret ?_
                    refine AE_keep [4] (env' := [(4, (.int .i64 v15))]) (by kernel_rfl) ?_
                    simp only [Option.some.injEq] at h
                    subst h
                    exact AE_done ⟨trivial, by kernel_rfl, by kernel_rfl, by simp [AV.low, AV.lows, AObj.low], by simp [AV.low, AV.lows, AObj.low]⟩

theorem F82_all (K0 : Nat) : (∀ (v1 : Int) (v2 : ByteArray) (v3 : Int) (v4 : ByteArray) (v5 : (List T57)) (v6 : Int) (v7 : Int) (r1 : Int), F82 K0 v1 v2 v3 v4 v5 v6 v7 = some (r1) → Fn prog 82 [(.agg [(.int .i64 v1), (.str v2), (.int .i64 v3), (.str v4), (.sl (l57 v5)), (.int .i64 v6)]), (.int .i64 v7)] [] (.int .i64 r1) []) := by
  induction K0 using Nat.strongRecOn with
  | ind K0 ih => exact F82_step K0 (fun k hk => (ih k hk))

theorem F82_ok (K0 : Nat) : ∀ (v1 : Int) (v2 : ByteArray) (v3 : Int) (v4 : ByteArray) (v5 : (List T57)) (v6 : Int) (v7 : Int) (r1 : Int), F82 K0 v1 v2 v3 v4 v5 v6 v7 = some (r1) → Fn prog 82 [(.agg [(.int .i64 v1), (.str v2), (.int .i64 v3), (.str v4), (.sl (l57 v5)), (.int .i64 v6)]), (.int .i64 v7)] [] (.int .i64 r1) [] := (F82_all K0)
end Go.Vm
