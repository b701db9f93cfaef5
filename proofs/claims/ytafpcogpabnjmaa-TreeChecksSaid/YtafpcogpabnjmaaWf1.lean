/- Printed by gen.py: functions of the program as Lean functions, and that they do what these say. -/
import Derived.Test.YtafpcogpabnjmaaWf0
set_option linter.unusedVariables false
set_option linter.unusedSimpArgs false
set_option linter.unusedSectionVars false
set_option maxRecDepth 20000
namespace Go.Vm
mutual
def F111 : Nat → (List T57) → Int → Int → Int → Option (Bool × Int)
  | 0, _, _, _, _ => none
  | k + 1, v1, v2, v3, v4 =>
    ((F134 k v1 v2 v3 v4).bind fun ⟨v5, v6⟩ =>
      some ((decide (v5 ≥ 0)), v6))
def F112 : Nat → Int → ByteArray → Int → ByteArray → (List T57) → Int → Int → Int → Int → Option (Bool × Int)
  | 0, _, _, _, _, _, _, _, _, _ => none
  | k + 1, v1, v2, v3, v4, v5, v6, v7, v8, v9 =>
    ((F61 k v1 v2 v3 v4 v5 v6 (IntKind.wrap .i64 (v9 - 1)) v7 v8).bind fun ⟨v10, v11⟩ =>
      some ((!v10), v11))
def F134 : Nat → (List T57) → Int → Int → Int → Option (Int × Int)
  | 0, _, _, _, _ => none
  | k + 1, v1, v2, v3, v4 =>
    F134_l0 k v1 v2 v4 0 v3
def F134_l0 : Nat → (List T57) → Int → Int → Int → Int → Option (Int × Int)
  | 0, _, _, _, _, _ => none
  | k1 + 1, v1, v2, v4, v5, v6 =>
    (bif (decide (v5 < ((l57 v1).length : Int))) then
      ((idx v1 v5).bind fun ⟨v7, v8, v9, v10, v11, v12⟩ =>
        ((F112 k1 v7 v8 v9 v10 v11 v12 v2 v6 v4).bind fun ⟨v13, v14⟩ =>
          (bif v13 then
            some (v5, v14)
          else
            F134_l0 k1 v1 v2 v4 (IntKind.wrap .i64 (v5 + 1)) v14)))
    else
      some ((-1), v6))
def F61 : Nat → Int → ByteArray → Int → ByteArray → (List T57) → Int → Int → Int → Int → Option (Bool × Int)
  | 0, _, _, _, _, _, _, _, _, _ => none
  | k + 1, v1, v2, v3, v4, v5, v6, v7, v8, v9 =>
    (bif (decide ((IntKind.wrap .i64 (v9 + 1)) > 8192)) then
      F61_j0 k v8 v9 v1 v2 v3 v4 v5 v7 true
    else
      F61_j0 k v8 v9 v1 v2 v3 v4 v5 v7 (decide (v7 < 1)))
def F61_j0 : Nat → Int → Int → Int → ByteArray → Int → ByteArray → (List T57) → Int → Bool → Option (Bool × Int)
  | 0, _, _, _, _, _, _, _, _, _ => none
  | k2 + 1, v8, v9, v1, v2, v3, v4, v5, v7, v10 =>
    (bif v10 then
      some (false, (IntKind.wrap .i64 (v9 + 1)))
    else
      (bif (v1 == 1) then
        (bif (v2.toList == (ByteArray.mk #[]).toList) then
          (bif (v4.toList == (ByteArray.mk #[]).toList) then
            (bif (decide (v3 ≥ 0)) then
              F61_j1 k2 v8 v9 v5 v7 0 (decide (v3 ≤ 65535))
            else
              F61_j1 k2 v8 v9 v5 v7 0 false)
          else
            F61_j1 k2 v8 v9 v5 v7 0 false)
        else
          F61_j1 k2 v8 v9 v5 v7 0 false)
      else
        (bif (v1 == 2) then
          (bif (v2.toList == (ByteArray.mk #[]).toList) then
            (bif (v3 == 0) then
              ((F75 k2 v4).bind fun v13 =>
                F61_j1 k2 v8 v9 v5 v7 0 v13)
            else
              F61_j1 k2 v8 v9 v5 v7 0 false)
          else
            F61_j1 k2 v8 v9 v5 v7 0 false)
        else
          (bif (v1 == 3) then
            (bif (v2.toList == (ByteArray.mk #[45]).toList) then
              (bif (v3 == 0) then
                F61_j1 k2 v8 v9 v5 v7 1 (v4.toList == (ByteArray.mk #[]).toList)
              else
                F61_j1 k2 v8 v9 v5 v7 1 false)
            else
              (bif (v2.toList == (ByteArray.mk #[126]).toList) then
                (bif (v3 == 0) then
                  F61_j1 k2 v8 v9 v5 v7 1 (v4.toList == (ByteArray.mk #[]).toList)
                else
                  F61_j1 k2 v8 v9 v5 v7 1 false)
              else
                (bif (v2.toList == (ByteArray.mk #[33]).toList) then
                  (bif (v3 == 0) then
                    F61_j1 k2 v8 v9 v5 v7 1 (v4.toList == (ByteArray.mk #[]).toList)
                  else
                    F61_j1 k2 v8 v9 v5 v7 1 false)
                else
                  F61_j1 k2 v8 v9 v5 v7 1 false)))
          else
            (bif (v1 == 4) then
              ((F110 k2 v2).bind fun v14 =>
                (bif (decide (v14 > 0)) then
                  (bif (v3 == 0) then
                    F61_j1 k2 v8 v9 v5 v7 2 (v4.toList == (ByteArray.mk #[]).toList)
                  else
                    F61_j1 k2 v8 v9 v5 v7 2 false)
                else
                  F61_j1 k2 v8 v9 v5 v7 2 false))
            else
              F61_j1 k2 v8 v9 v5 v7 0 false)))))
def F61_j1 : Nat → Int → Int → (List T57) → Int → Int → Bool → Option (Bool × Int)
  | 0, _, _, _, _, _, _ => none
  | k24 + 1, v8, v9, v5, v7, v11, v12 =>
    (bif v12 then
      (bif (((l57 v5).length : Int) == v11) then
        ((F111 k24 v5 v8 (IntKind.wrap .i64 (v9 + 1)) v7).bind fun ⟨v15, v16⟩ =>
          some ((!v15), v16))
      else
        some (false, (IntKind.wrap .i64 (v9 + 1))))
    else
      some (false, (IntKind.wrap .i64 (v9 + 1))))
end

theorem F112_step (K0 : Nat) (ih_F112 : ∀ k, k < K0 → ∀ (v1 : Int) (v2 : ByteArray) (v3 : Int) (v4 : ByteArray) (v5 : (List T57)) (v6 : Int) (v7 : Int) (v8 : Int) (v9 : Int) (r1 : Bool) (r2 : Int), F112 k v1 v2 v3 v4 v5 v6 v7 v8 v9 = some (r1, r2) → Fn prog 112 [(.agg [(.int .i64 v1), (.str v2), (.int .i64 v3), (.str v4), (.sl (l57 v5)), (.int .i64 v6)]), (.ptr 0 0), (.ptr 2 0)] [.cells [(.ptr 1 0)], .cells [(.int .i64 v7), (.int .i64 v8)], .cells [(.int .i64 v9)]] (.bool r1) [.cells [(.ptr 1 0)], .cells [(.int .i64 v7), (.int .i64 r2)], .cells [(.int .i64 v9)]]) (ih_F134 : ∀ k, k < K0 → ∀ (v1 : (List T57)) (v2 : Int) (v3 : Int) (v4 : Int) (r1 : Int) (r2 : Int), F134 k v1 v2 v3 v4 = some (r1, r2) → Fn prog 134 [(.sl (l57 v1)), (.fn 112 [] [(.ptr 0 0), (.ptr 2 0)])] [.cells [(.ptr 1 0)], .cells [(.int .i64 v2), (.int .i64 v3)], .cells [(.int .i64 v4)]] (.int .i64 r1) [.cells [(.ptr 1 0)], .cells [(.int .i64 v2), (.int .i64 r2)], .cells [(.int .i64 v4)]]) (ih_F111 : ∀ k, k < K0 → ∀ (v1 : (List T57)) (v2 : Int) (v3 : Int) (v4 : Int) (r1 : Bool) (r2 : Int), F111 k v1 v2 v3 v4 = some (r1, r2) → Fn prog 111 [(.sl (l57 v1)), (.fn 112 [] [(.ptr 0 0), (.ptr 2 0)])] [.cells [(.ptr 1 0)], .cells [(.int .i64 v2), (.int .i64 v3)], .cells [(.int .i64 v4)]] (.bool r1) [.cells [(.ptr 1 0)], .cells [(.int .i64 v2), (.int .i64 r2)], .cells [(.int .i64 v4)]]) (ih_F61 : ∀ k, k < K0 → ∀ (v1 : Int) (v2 : ByteArray) (v3 : Int) (v4 : ByteArray) (v5 : (List T57)) (v6 : Int) (v7 : Int) (v8 : Int) (v9 : Int) (r1 : Bool) (r2 : Int), F61 k v1 v2 v3 v4 v5 v6 v7 v8 v9 = some (r1, r2) → Fn prog 61 [(.ptr 0 0), (.agg [(.int .i64 v1), (.str v2), (.int .i64 v3), (.str v4), (.sl (l57 v5)), (.int .i64 v6)]), (.int .i64 v7)] [.cells [(.int .i64 v8), (.int .i64 v9)]] (.bool r1) [.cells [(.int .i64 v8), (.int .i64 r2)]]) : ∀ (v1 : Int) (v2 : ByteArray) (v3 : Int) (v4 : ByteArray) (v5 : (List T57)) (v6 : Int) (v7 : Int) (v8 : Int) (v9 : Int) (r1 : Bool) (r2 : Int), F112 K0 v1 v2 v3 v4 v5 v6 v7 v8 v9 = some (r1, r2) → Fn prog 112 [(.agg [(.int .i64 v1), (.str v2), (.int .i64 v3), (.str v4), (.sl (l57 v5)), (.int .i64 v6)]), (.ptr 0 0), (.ptr 2 0)] [.cells [(.ptr 1 0)], .cells [(.int .i64 v7), (.int .i64 v8)], .cells [(.int .i64 v9)]] (.bool r1) [.cells [(.ptr 1 0)], .cells [(.int .i64 v7), (.int .i64 r2)], .cells [(.int .i64 v9)]] := by
  intro v1 v2 v3 v4 v5 v6 v7 v8 v9 r1 r2 h
  cases K0 with
  | zero => rw [F112] at h; cases h
  | succ k =>
    have hk : k < k + 1 := Nat.lt_succ_self k
    rw [F112] at h
    refine Fn_bodyK hT Go.Proofs.Try.func112 (c := Go.Proofs.Try.f112.body.getD .skip) (by kernel_rfl) (by kernel_rfl) (by kernel_rfl) ?_
    refine AW_seq ?_
    refine AW_reg ?_
    refine AR_many hT 2 [1, 2, 3] [(1, (.ptr 0 0)), (2, (.ptr 2 0)), (3, (.ptr 3 0))] [.cells [(.ptr 1 0)], .cells [(.int .i64 v7), (.int .i64 v8)], .cells [(.int .i64 v9)], .cells [(.int .i64 v1), (.str v2), (.int .i64 v3), (.str v4), (.sl (l57 v5)), (.int .i64 v6)]] (by kernel_rfl) ?_
    refine AR_fin (by kernel_rfl) ?_
    refine AE_seqN ?_
    refine AW_seq ?_
    obtain ⟨⟨v10, v11⟩, h1, h⟩ := Option.bind_eq_some_iff.mp h
    try dsimp only at h
    refine AW_reg ?_
    refine AR_many hT 4 [5, 6, 8] [(5, (.ptr 1 0)), (6, (.agg [(.int .i64 v1), (.str v2), (.int .i64 v3), (.str v4), (.sl (l57 v5)), (.int .i64 v6)])), (8, (.int .i64 (IntKind.wrap .i64 (v9 - 1))))] [.cells [(.ptr 1 0)], .cells [(.int .i64 v7), (.int .i64 v8)], .cells [(.int .i64 v9)], .cells [(.int .i64 v1), (.str v2), (.int .i64 v3), (.str v4), (.sl (l57 v5)), (.int .i64 v6)]] (by kernel_rfl) ?_
    refine AR_op (by kernel_rfl) (OpJ_callK (g := 61) (args := [(.ptr 1 0), (.agg [(.int .i64 v1), (.str v2), (.int .i64 v3), (.str v4), (.sl (l57 v5)), (.int .i64 v6)]), (.int .i64 (IntKind.wrap .i64 (v9 - 1)))]) (by kernel_rfl) Go.Proofs.Try.func61 (by kernel_rfl) (by kernel_rfl) (Fn_in (L := [.cells [(.ptr 1 0)], .cells [(.int .i64 v7), (.int .i64 v8)], .cells [(.int .i64 v9)], .cells [(.int .i64 v1), (.str v2), (.int .i64 v3), (.str v4), (.sl (l57 v5)), (.int .i64 v6)]]) (args' := [(.ptr 1 0), (.agg [(.int .i64 v1), (.str v2), (.int .i64 v3), (.str v4), (.sl (l57 v5)), (.int .i64 v6)]), (.int .i64 (IntKind.wrap .i64 (v9 - 1)))]) (res' := (.bool v10)) (L'' := [.cells [(.ptr 1 0)], .cells [(.int .i64 v7), (.int .i64 v11)], .cells [(.int .i64 v9)], .cells [(.int .i64 v1), (.str v2), (.int .i64 v3), (.str v4), (.sl (l57 v5)), (.int .i64 v6)]]) [1] (ih_F61 k hk v1 v2 v3 v4 v5 v6 (IntKind.wrap .i64 (v9 - 1)) v7 v8 v10 v11 h1) rfl (by decide) ⟨(by simp [AV.ren, AV.rens, AObj.ren, gname]), trivial⟩ (by simp [AV.low, AV.lows, AObj.low]) (by simp [AV.low, AV.lows, AObj.low]) (by kernel_rfl) (by simp [AV.ren, AV.rens, AObj.ren, gname, putBack]) (by simp [AV.ren, AV.rens, AObj.ren, gname, putBack]) (by simp [AV.ren, AV.rens, AObj.ren, gname, putBack]))) ?_
    refine AR_many hT 2 [4] [(4, (.bool (!v10)))] [.cells [(.ptr 1 0)], .cells [(.int .i64 v7), (.int .i64 v11)], .cells [(.int .i64 v9)], .cells [(.int .i64 v1), (.str v2), (.int .i64 v3), (.str v4), (.sl (l57 v5)), (.int .i64 v6)]] (by kernel_rfl) ?_
    refine AR_fin (by kernel_rfl) ?_
    refine AE_seqN ?_
    refine AE_ret ?_
    refine AE_keep [4] (env' := [(4, (.bool (!v10)))]) (by kernel_rfl) ?_
    simp only [Option.some.injEq, Prod.mk.injEq] at h
    obtain ⟨rfl, rfl⟩ := h
    exact AE_done ⟨trivial, by kernel_rfl, by kernel_rfl, by simp [AV.low, AV.lows, AObj.low], by simp [AV.low, AV.lows, AObj.low]⟩

theorem F134_step (K0 : Nat) (ih_F112 : ∀ k, k < K0 → ∀ (v1 : Int) (v2 : ByteArray) (v3 : Int) (v4 : ByteArray) (v5 : (List T57)) (v6 : Int) (v7 : Int) (v8 : Int) (v9 : Int) (r1 : Bool) (r2 : Int), F112 k v1 v2 v3 v4 v5 v6 v7 v8 v9 = some (r1, r2) → Fn prog 112 [(.agg [(.int .i64 v1), (.str v2), (.int .i64 v3), (.str v4), (.sl (l57 v5)), (.int .i64 v6)]), (.ptr 0 0), (.ptr 2 0)] [.cells [(.ptr 1 0)], .cells [(.int .i64 v7), (.int .i64 v8)], .cells [(.int .i64 v9)]] (.bool r1) [.cells [(.ptr 1 0)], .cells [(.int .i64 v7), (.int .i64 r2)], .cells [(.int .i64 v9)]]) (ih_F134 : ∀ k, k < K0 → ∀ (v1 : (List T57)) (v2 : Int) (v3 : Int) (v4 : Int) (r1 : Int) (r2 : Int), F134 k v1 v2 v3 v4 = some (r1, r2) → Fn prog 134 [(.sl (l57 v1)), (.fn 112 [] [(.ptr 0 0), (.ptr 2 0)])] [.cells [(.ptr 1 0)], .cells [(.int .i64 v2), (.int .i64 v3)], .cells [(.int .i64 v4)]] (.int .i64 r1) [.cells [(.ptr 1 0)], .cells [(.int .i64 v2), (.int .i64 r2)], .cells [(.int .i64 v4)]]) (ih_F111 : ∀ k, k < K0 → ∀ (v1 : (List T57)) (v2 : Int) (v3 : Int) (v4 : Int) (r1 : Bool) (r2 : Int), F111 k v1 v2 v3 v4 = some (r1, r2) → Fn prog 111 [(.sl (l57 v1)), (.fn 112 [] [(.ptr 0 0), (.ptr 2 0)])] [.cells [(.ptr 1 0)], .cells [(.int .i64 v2), (.int .i64 v3)], .cells [(.int .i64 v4)]] (.bool r1) [.cells [(.ptr 1 0)], .cells [(.int .i64 v2), (.int .i64 r2)], .cells [(.int .i64 v4)]]) (ih_F61 : ∀ k, k < K0 → ∀ (v1 : Int) (v2 : ByteArray) (v3 : Int) (v4 : ByteArray) (v5 : (List T57)) (v6 : Int) (v7 : Int) (v8 : Int) (v9 : Int) (r1 : Bool) (r2 : Int), F61 k v1 v2 v3 v4 v5 v6 v7 v8 v9 = some (r1, r2) → Fn prog 61 [(.ptr 0 0), (.agg [(.int .i64 v1), (.str v2), (.int .i64 v3), (.str v4), (.sl (l57 v5)), (.int .i64 v6)]), (.int .i64 v7)] [.cells [(.int .i64 v8), (.int .i64 v9)]] (.bool r1) [.cells [(.int .i64 v8), (.int .i64 r2)]]) : ∀ (v1 : (List T57)) (v2 : Int) (v3 : Int) (v4 : Int) (r1 : Int) (r2 : Int), F134 K0 v1 v2 v3 v4 = some (r1, r2) → Fn prog 134 [(.sl (l57 v1)), (.fn 112 [] [(.ptr 0 0), (.ptr 2 0)])] [.cells [(.ptr 1 0)], .cells [(.int .i64 v2), (.int .i64 v3)], .cells [(.int .i64 v4)]] (.int .i64 r1) [.cells [(.ptr 1 0)], .cells [(.int .i64 v2), (.int .i64 r2)], .cells [(.int .i64 v4)]] := by
  intro v1 v2 v3 v4 r1 r2 h
  cases K0 with
  | zero => rw [F134] at h; cases h
  | succ k =>
    have hk : k < k + 1 := Nat.lt_succ_self k
    rw [F134] at h
    refine Fn_bodyK hT Go.Proofs.Try.func134 (c := Go.Proofs.Try.f134.body.getD .skip) (by kernel_rfl) (by kernel_rfl) (by kernel_rfl) ?_
    refine AW_seq ?_
    refine AW_reg ?_
    refine AR_many hT 1 [0, 1] [(0, (.sl (l57 v1))), (1, (.fn 112 [] [(.ptr 0 0), (.ptr 2 0)]))] [.cells [(.ptr 1 0)], .cells [(.int .i64 v2), (.int .i64 v3)], .cells [(.int .i64 v4)]] (by kernel_rfl) ?_
    refine AR_fin (by kernel_rfl) ?_
    refine AE_seqN ?_
    refine AW_seq ?_
    refine AW_seq ?_
    refine AW_reg ?_
    refine AR_many hT 3 [0, 1, 7, 8] [(0, (.sl (l57 v1))), (1, (.fn 112 [] [(.ptr 0 0), (.ptr 2 0)])), (7, (.int .i64 ((l57 v1).length : Int))), (8, (.int .i64 0))] [.cells [(.ptr 1 0)], .cells [(.int .i64 v2), (.int .i64 v3)], .cells [(.int .i64 v4)]] (by kernel_rfl) ?_
    refine AR_fin (by kernel_rfl) ?_
    refine AE_seqN ?_
    refine AW_block ?_
    refine AW_keep [0, 1, 7, 8] (env' := [(0, (.sl (l57 v1))), (1, (.fn 112 [] [(.ptr 0 0), (.ptr 2 0)])), (7, (.int .i64 ((l57 v1).length : Int))), (8, (.int .i64 0))]) (by kernel_rfl) ?_
    refine AW_loop (fun n env L => n ≤ k ∧ ∃ (v5 : Int) (v6 : Int), env = [(0, (.sl (l57 v1))), (1, (.fn 112 [] [(.ptr 0 0), (.ptr 2 0)])), (7, (.int .i64 ((l57 v1).length : Int))), (8, (.int .i64 v5))] ∧ L = [.cells [(.ptr 1 0)], .cells [(.int .i64 v2), (.int .i64 v6)], .cells [(.int .i64 v4)]] ∧ F134_l0 n v1 v2 v4 v5 v6 = some (r1, r2)) k ⟨Nat.le_refl _, 0, v3, rfl, rfl, h⟩ ?_
    rintro n _ _ ⟨hn, v5, v6, rfl, rfl, h⟩
    cases n with
    | zero => rw [F134_l0] at h; cases h
    | succ k1 =>
      have h2 : k1 < (k + 1) := by omega
      rw [F134_l0] at h
      refine AW_seq ?_
      refine AW_reg ?_
      refine AR_many hT 1 [0, 1, 7, 8, 9] [(0, (.sl (l57 v1))), (1, (.fn 112 [] [(.ptr 0 0), (.ptr 2 0)])), (7, (.int .i64 ((l57 v1).length : Int))), (8, (.int .i64 v5)), (9, (.bool (decide (v5 < ((l57 v1).length : Int)))))] [.cells [(.ptr 1 0)], .cells [(.int .i64 v2), (.int .i64 v6)], .cells [(.int .i64 v4)]] (by kernel_rfl) ?_
      refine AR_fin (by kernel_rfl) ?_
      refine AE_seqN ?_
      refine AW_seq ?_
      rcases Bool.eq_false_or_eq_true (decide (v5 < ((l57 v1).length : Int))) with h3 | h3
      · replace h := bifT h3 h
        refine AW_ifT (q := (decide (v5 < ((l57 v1).length : Int)))) (by kernel_rfl) h3 ?_
        refine AE_skip ?_
        refine AE_seqN ?_
        refine AW_seq ?_
        refine AW_block ?_
        refine AW_seq ?_
        refine AW_reg ?_
        refine AR_many hT 2 [0, 1, 5, 7, 8] [(0, (.sl (l57 v1))), (1, (.fn 112 [] [(.ptr 0 0), (.ptr 2 0)])), (5, (.int .i64 v5)), (7, (.int .i64 ((l57 v1).length : Int))), (8, (.int .i64 v5))] [.cells [(.ptr 1 0)], .cells [(.int .i64 v2), (.int .i64 v6)], .cells [(.int .i64 v4)]] (by kernel_rfl) ?_
        refine AR_fin (by kernel_rfl) ?_
        refine AE_seqN ?_
        refine AW_seq ?_
        obtain ⟨⟨v7, v8, v9, v10, v11, v12⟩, h4, h⟩ := Option.bind_eq_some_iff.mp h
        try dsimp only at h
        obtain ⟨⟨v13, v14⟩, h5, h⟩ := Option.bind_eq_some_iff.mp h
        try dsimp only at h
        refine AW_reg ?_
        refine AR_many hT 3 [0, 1, 5, 7, 8, 11, 12, 13] [(0, (.sl (l57 v1))), (1, (.fn 112 [] [(.ptr 0 0), (.ptr 2 0)])), (5, (.int .i64 v5)), (7, (.int .i64 ((l57 v1).length : Int))), (8, (.int .i64 v5)), (11, (.fn 112 [] [(.ptr 0 0), (.ptr 2 0)])), (12, (.sl (l57 v1))), (13, (.int .i64 v5))] [.cells [(.ptr 1 0)], .cells [(.int .i64 v2), (.int .i64 v6)], .cells [(.int .i64 v4)]] (by kernel_rfl) ?_
        refine AR_op (by kernel_rfl) (OpJ_indexK hT (xs := l57 v1) (j := v5) (n := 6) (by kernel_rfl) (i57 h4) (by kernel_rfl)) ?_
        refine AR_many hT 1 [0, 1, 5, 7, 8, 11, 15] [(0, (.sl (l57 v1))), (1, (.fn 112 [] [(.ptr 0 0), (.ptr 2 0)])), (5, (.int .i64 v5)), (7, (.int .i64 ((l57 v1).length : Int))), (8, (.int .i64 v5)), (11, (.fn 112 [] [(.ptr 0 0), (.ptr 2 0)])), (15, (.agg [(.int .i64 v7), (.str v8), (.int .i64 v9), (.str v10), (.sl (l57 v11)), (.int .i64 v12)]))] [.cells [(.ptr 1 0)], .cells [(.int .i64 v2), (.int .i64 v6)], .cells [(.int .i64 v4)]] (by kernel_rfl) ?_
        refine AR_op (by kernel_rfl) (OpJ_callK (g := 112) (args := [(.agg [(.int .i64 v7), (.str v8), (.int .i64 v9), (.str v10), (.sl (l57 v11)), (.int .i64 v12)]), (.ptr 0 0), (.ptr 2 0)]) (by kernel_rfl) Go.Proofs.Try.func112 (by kernel_rfl) (by kernel_rfl) (Fn_in (L := [.cells [(.ptr 1 0)], .cells [(.int .i64 v2), (.int .i64 v6)], .cells [(.int .i64 v4)]]) (args' := [(.agg [(.int .i64 v7), (.str v8), (.int .i64 v9), (.str v10), (.sl (l57 v11)), (.int .i64 v12)]), (.ptr 0 0), (.ptr 2 0)]) (res' := (.bool v13)) (L'' := [.cells [(.ptr 1 0)], .cells [(.int .i64 v2), (.int .i64 v14)], .cells [(.int .i64 v4)]]) [0, 1, 2] (ih_F112 k1 h2 v7 v8 v9 v10 v11 v12 v2 v6 v4 v13 v14 h5) rfl (by decide) ⟨(by simp [AV.ren, AV.rens, AObj.ren, gname]), (by simp [AV.ren, AV.rens, AObj.ren, gname]), (by simp [AV.ren, AV.rens, AObj.ren, gname]), trivial⟩ (by simp [AV.low, AV.lows, AObj.low]) (by simp [AV.low, AV.lows, AObj.low]) (by kernel_rfl) (by simp [AV.ren, AV.rens, AObj.ren, gname, putBack]) (by simp [AV.ren, AV.rens, AObj.ren, gname, putBack]) (by simp [AV.ren, AV.rens, AObj.ren, gname, putBack]))) ?_
        refine AR_fin (by kernel_rfl) ?_
        refine AE_keep [0, 1, 5, 7, 8, 16] (env' := [(0, (.sl (l57 v1))), (1, (.fn 112 [] [(.ptr 0 0), (.ptr 2 0)])), (5, (.int .i64 v5)), (7, (.int .i64 ((l57 v1).length : Int))), (8, (.int .i64 v5)), (16, (.bool v13))]) (by kernel_rfl) ?_
        refine AE_seqN ?_
        rcases Bool.eq_false_or_eq_true v13 with h6 | h6
        · replace h := bifT h6 h
          refine AW_ifT (q := v13) (by kernel_rfl) h6 ?_
          refine AW_seq ?_
          refine AW_reg ?_
          refine AR_many hT 2 [4] [(4, (.int .i64 v5))] [.cells [(.ptr 1 0)], .cells [(.int .i64 v2), (.int .i64 v14)], .cells [(.int .i64 v4)]] (by kernel_rfl) ?_
          refine AR_fin (by kernel_rfl) ?_
          refine AE_seqN ?_
          refine AE_ret ?_
          refine AE_blkR ?_
          refine AE_seqR ?_
          refine AE_seqR ?_
          refine AE_blkR ?_
          refine AE_seqR ?_
          refine AE_keep [4] (env' := [(4, (.int .i64 v5))]) (by kernel_rfl) ?_
          simp only [Option.some.injEq, Prod.mk.injEq] at h
          obtain ⟨rfl, rfl⟩ := h
          exact AE_done ⟨trivial, by kernel_rfl, by kernel_rfl, by simp [AV.low, AV.lows, AObj.low], by simp [AV.low, AV.lows, AObj.low]⟩
        · replace h := bifF h6 h
          refine AW_ifF (q := v13) (by kernel_rfl) h6 ?_
          refine AE_skip ?_
          refine AE_blkN ?_
          refine AE_seqN ?_
          refine AW_reg ?_
          refine AR_many hT 2 [0, 1, 7, 8] [(0, (.sl (l57 v1))), (1, (.fn 112 [] [(.ptr 0 0), (.ptr 2 0)])), (7, (.int .i64 ((l57 v1).length : Int))), (8, (.int .i64 (IntKind.wrap .i64 (v5 + 1))))] [.cells [(.ptr 1 0)], .cells [(.int .i64 v2), (.int .i64 v14)], .cells [(.int .i64 v4)]] (by kernel_rfl) ?_
          refine AR_fin (by kernel_rfl) ?_
          refine AE_keep [0, 1, 7, 8] (env' := [(0, (.sl (l57 v1))), (1, (.fn 112 [] [(.ptr 0 0), (.ptr 2 0)])), (7, (.int .i64 ((l57 v1).length : Int))), (8, (.int .i64 (IntKind.wrap .i64 (v5 + 1))))]) (by kernel_rfl) ?_
          exact AE_done ⟨k1, by omega, by omega, (IntKind.wrap .i64 (v5 + 1)), v14, rfl, rfl, h⟩
      · replace h := bifF h3 h
        refine AW_ifF (q := (decide (v5 < ((l57 v1).length : Int)))) (by kernel_rfl) h3 ?_
        refine AE_exit ?_
        refine AE_seqX ?_
        refine AE_seqX ?_
        refine AE_blkH ?_
        refine AE_seqN ?_
        refine AW_seq ?_
        refine AW_reg ?_
        refine AR_many hT 1 [4] [(4, (.int .i64 (-1)))] [.cells [(.ptr 1 0)], .cells [(.int .i64 v2), (.int .i64 v6)], .cells [(.int .i64 v4)]] (by kernel_rfl) ?_
        refine AR_fin (by kernel_rfl) ?_
        refine AE_seqN ?_
        refine AE_ret ?_
        refine AE_keep [4] (env' := [(4, (.int .i64 (-1)))]) (by kernel_rfl) ?_
        simp only [Option.some.injEq, Prod.mk.injEq] at h
        obtain ⟨rfl, rfl⟩ := h
        exact AE_done ⟨trivial, by kernel_rfl, by kernel_rfl, by simp [AV.low, AV.lows, AObj.low], by simp [AV.low, AV.lows, AObj.low]⟩

theorem F111_step (K0 : Nat) (ih_F112 : ∀ k, k < K0 → ∀ (v1 : Int) (v2 : ByteArray) (v3 : Int) (v4 : ByteArray) (v5 : (List T57)) (v6 : Int) (v7 : Int) (v8 : Int) (v9 : Int) (r1 : Bool) (r2 : Int), F112 k v1 v2 v3 v4 v5 v6 v7 v8 v9 = some (r1, r2) → Fn prog 112 [(.agg [(.int .i64 v1), (.str v2), (.int .i64 v3), (.str v4), (.sl (l57 v5)), (.int .i64 v6)]), (.ptr 0 0), (.ptr 2 0)] [.cells [(.ptr 1 0)], .cells [(.int .i64 v7), (.int .i64 v8)], .cells [(.int .i64 v9)]] (.bool r1) [.cells [(.ptr 1 0)], .cells [(.int .i64 v7), (.int .i64 r2)], .cells [(.int .i64 v9)]]) (ih_F134 : ∀ k, k < K0 → ∀ (v1 : (List T57)) (v2 : Int) (v3 : Int) (v4 : Int) (r1 : Int) (r2 : Int), F134 k v1 v2 v3 v4 = some (r1, r2) → Fn prog 134 [(.sl (l57 v1)), (.fn 112 [] [(.ptr 0 0), (.ptr 2 0)])] [.cells [(.ptr 1 0)], .cells [(.int .i64 v2), (.int .i64 v3)], .cells [(.int .i64 v4)]] (.int .i64 r1) [.cells [(.ptr 1 0)], .cells [(.int .i64 v2), (.int .i64 r2)], .cells [(.int .i64 v4)]]) (ih_F111 : ∀ k, k < K0 → ∀ (v1 : (List T57)) (v2 : Int) (v3 : Int) (v4 : Int) (r1 : Bool) (r2 : Int), F111 k v1 v2 v3 v4 = some (r1, r2) → Fn prog 111 [(.sl (l57 v1)), (.fn 112 [] [(.ptr 0 0), (.ptr 2 0)])] [.cells [(.ptr 1 0)], .cells [(.int .i64 v2), (.int .i64 v3)], .cells [(.int .i64 v4)]] (.bool r1) [.cells [(.ptr 1 0)], .cells [(.int .i64 v2), (.int .i64 r2)], .cells [(.int .i64 v4)]]) (ih_F61 : ∀ k, k < K0 → ∀ (v1 : Int) (v2 : ByteArray) (v3 : Int) (v4 : ByteArray) (v5 : (List T57)) (v6 : Int) (v7 : Int) (v8 : Int) (v9 : Int) (r1 : Bool) (r2 : Int), F61 k v1 v2 v3 v4 v5 v6 v7 v8 v9 = some (r1, r2) → Fn prog 61 [(.ptr 0 0), (.agg [(.int .i64 v1), (.str v2), (.int .i64 v3), (.str v4), (.sl (l57 v5)), (.int .i64 v6)]), (.int .i64 v7)] [.cells [(.int .i64 v8), (.int .i64 v9)]] (.bool r1) [.cells [(.int .i64 v8), (.int .i64 r2)]]) : ∀ (v1 : (List T57)) (v2 : Int) (v3 : Int) (v4 : Int) (r1 : Bool) (r2 : Int), F111 K0 v1 v2 v3 v4 = some (r1, r2) → Fn prog 111 [(.sl (l57 v1)), (.fn 112 [] [(.ptr 0 0), (.ptr 2 0)])] [.cells [(.ptr 1 0)], .cells [(.int .i64 v2), (.int .i64 v3)], .cells [(.int .i64 v4)]] (.bool r1) [.cells [(.ptr 1 0)], .cells [(.int .i64 v2), (.int .i64 r2)], .cells [(.int .i64 v4)]] := by
  intro v1 v2 v3 v4 r1 r2 h
  cases K0 with
  | zero => rw [F111] at h; cases h
  | succ k =>
    have hk : k < k + 1 := Nat.lt_succ_self k
    rw [F111] at h
    refine Fn_bodyK hT Go.Proofs.Try.func111 (c := Go.Proofs.Try.f111.body.getD .skip) (by kernel_rfl) (by kernel_rfl) (by kernel_rfl) ?_
    refine AW_seq ?_
    refine AW_reg ?_
    refine AR_many hT 1 [0, 1] [(0, (.sl (l57 v1))), (1, (.fn 112 [] [(.ptr 0 0), (.ptr 2 0)]))] [.cells [(.ptr 1 0)], .cells [(.int .i64 v2), (.int .i64 v3)], .cells [(.int .i64 v4)]] (by kernel_rfl) ?_
    refine AR_fin (by kernel_rfl) ?_
    refine AE_seqN ?_
    refine AW_seq ?_
    obtain ⟨⟨v5, v6⟩, h1, h⟩ := Option.bind_eq_some_iff.mp h
    try dsimp only at h
    refine AW_reg ?_
    refine AR_many hT 2 [5, 6] [(5, (.sl (l57 v1))), (6, (.fn 112 [] [(.ptr 0 0), (.ptr 2 0)]))] [.cells [(.ptr 1 0)], .cells [(.int .i64 v2), (.int .i64 v3)], .cells [(.int .i64 v4)]] (by kernel_rfl) ?_
    refine AR_op (by kernel_rfl) (OpJ_callK (g := 134) (args := [(.sl (l57 v1)), (.fn 112 [] [(.ptr 0 0), (.ptr 2 0)])]) (by kernel_rfl) Go.Proofs.Try.func134 (by kernel_rfl) (by kernel_rfl) (Fn_in (L := [.cells [(.ptr 1 0)], .cells [(.int .i64 v2), (.int .i64 v3)], .cells [(.int .i64 v4)]]) (args' := [(.sl (l57 v1)), (.fn 112 [] [(.ptr 0 0), (.ptr 2 0)])]) (res' := (.int .i64 v5)) (L'' := [.cells [(.ptr 1 0)], .cells [(.int .i64 v2), (.int .i64 v6)], .cells [(.int .i64 v4)]]) [0, 1, 2] (ih_F134 k hk v1 v2 v3 v4 v5 v6 h1) rfl (by decide) ⟨(by simp [AV.ren, AV.rens, AObj.ren, gname]), (by simp [AV.ren, AV.rens, AObj.ren, gname]), (by simp [AV.ren, AV.rens, AObj.ren, gname]), trivial⟩ (by simp [AV.low, AV.lows, AObj.low]) (by simp [AV.low, AV.lows, AObj.low]) (by kernel_rfl) (by simp [AV.ren, AV.rens, AObj.ren, gname, putBack]) (by simp [AV.ren, AV.rens, AObj.ren, gname, putBack]) (by simp [AV.ren, AV.rens, AObj.ren, gname, putBack]))) ?_
    refine AR_many hT 2 [4] [(4, (.bool (decide (v5 ≥ 0))))] [.cells [(.ptr 1 0)], .cells [(.int .i64 v2), (.int .i64 v6)], .cells [(.int .i64 v4)]] (by kernel_rfl) ?_
    refine AR_fin (by kernel_rfl) ?_
    refine AE_seqN ?_
    refine AE_ret ?_
    refine AE_keep [4] (env' := [(4, (.bool (decide (v5 ≥ 0))))]) (by kernel_rfl) ?_
    simp only [Option.some.injEq, Prod.mk.injEq] at h
    obtain ⟨rfl, rfl⟩ := h
    exact AE_done ⟨trivial, by kernel_rfl, by kernel_rfl, by simp [AV.low, AV.lows, AObj.low], by simp [AV.low, AV.lows, AObj.low]⟩

theorem F61_step (K0 : Nat) (ih_F112 : ∀ k, k < K0 → ∀ (v1 : Int) (v2 : ByteArray) (v3 : Int) (v4 : ByteArray) (v5 : (List T57)) (v6 : Int) (v7 : Int) (v8 : Int) (v9 : Int) (r1 : Bool) (r2 : Int), F112 k v1 v2 v3 v4 v5 v6 v7 v8 v9 = some (r1, r2) → Fn prog 112 [(.agg [(.int .i64 v1), (.str v2), (.int .i64 v3), (.str v4), (.sl (l57 v5)), (.int .i64 v6)]), (.ptr 0 0), (.ptr 2 0)] [.cells [(.ptr 1 0)], .cells [(.int .i64 v7), (.int .i64 v8)], .cells [(.int .i64 v9)]] (.bool r1) [.cells [(.ptr 1 0)], .cells [(.int .i64 v7), (.int .i64 r2)], .cells [(.int .i64 v9)]]) (ih_F134 : ∀ k, k < K0 → ∀ (v1 : (List T57)) (v2 : Int) (v3 : Int) (v4 : Int) (r1 : Int) (r2 : Int), F134 k v1 v2 v3 v4 = some (r1, r2) → Fn prog 134 [(.sl (l57 v1)), (.fn 112 [] [(.ptr 0 0), (.ptr 2 0)])] [.cells [(.ptr 1 0)], .cells [(.int .i64 v2), (.int .i64 v3)], .cells [(.int .i64 v4)]] (.int .i64 r1) [.cells [(.ptr 1 0)], .cells [(.int .i64 v2), (.int .i64 r2)], .cells [(.int .i64 v4)]]) (ih_F111 : ∀ k, k < K0 → ∀ (v1 : (List T57)) (v2 : Int) (v3 : Int) (v4 : Int) (r1 : Bool) (r2 : Int), F111 k v1 v2 v3 v4 = some (r1, r2) → Fn prog 111 [(.sl (l57 v1)), (.fn 112 [] [(.ptr 0 0), (.ptr 2 0)])] [.cells [(.ptr 1 0)], .cells [(.int .i64 v2), (.int .i64 v3)], .cells [(.int .i64 v4)]] (.bool r1) [.cells [(.ptr 1 0)], .cells [(.int .i64 v2), (.int .i64 r2)], .cells [(.int .i64 v4)]]) (ih_F61 : ∀ k, k < K0 → ∀ (v1 : Int) (v2 : ByteArray) (v3 : Int) (v4 : ByteArray) (v5 : (List T57)) (v6 : Int) (v7 : Int) (v8 : Int) (v9 : Int) (r1 : Bool) (r2 : Int), F61 k v1 v2 v3 v4 v5 v6 v7 v8 v9 = some (r1, r2) → Fn prog 61 [(.ptr 0 0), (.agg [(.int .i64 v1), (.str v2), (.int .i64 v3), (.str v4), (.sl (l57 v5)), (.int .i64 v6)]), (.int .i64 v7)] [.cells [(.int .i64 v8), (.int .i64 v9)]] (.bool r1) [.cells [(.int .i64 v8), (.int .i64 r2)]]) : ∀ (v1 : Int) (v2 : ByteArray) (v3 : Int) (v4 : ByteArray) (v5 : (List T57)) (v6 : Int) (v7 : Int) (v8 : Int) (v9 : Int) (r1 : Bool) (r2 : Int), F61 K0 v1 v2 v3 v4 v5 v6 v7 v8 v9 = some (r1, r2) → Fn prog 61 [(.ptr 0 0), (.agg [(.int .i64 v1), (.str v2), (.int .i64 v3), (.str v4), (.sl (l57 v5)), (.int .i64 v6)]), (.int .i64 v7)] [.cells [(.int .i64 v8), (.int .i64 v9)]] (.bool r1) [.cells [(.int .i64 v8), (.int .i64 r2)]] := by
  intro v1 v2 v3 v4 v5 v6 v7 v8 v9 r1 r2 h
  cases K0 with
  | zero => rw [F61] at h; cases h
  | succ k =>
    have hk : k < k + 1 := Nat.lt_succ_self k
    rw [F61] at h
    refine Fn_bodyK hT Go.Proofs.Try.func61 (c := Go.Proofs.Try.f61.body.getD .skip) (by kernel_rfl) (by kernel_rfl) (by kernel_rfl) ?_
    refine AW_seq ?_
    refine AW_reg ?_
    refine AR_many hT 4 [3, 4, 5] [(3, (.ptr 1 0)), (4, (.ptr 2 0)), (5, (.ptr 3 0))] [.cells [(.int .i64 v8), (.int .i64 v9)], .cells [(.ptr 0 0)], .cells [(.int .i64 v1), (.str v2), (.int .i64 v3), (.str v4), (.sl (l57 v5)), (.int .i64 v6)], .cells [(.int .i64 v7)]] (by kernel_rfl) ?_
    refine AR_fin (by kernel_rfl) ?_
    refine AE_seqN ?_
    refine AW_seq ?_
    refine AW_seq ?_
    refine AW_reg ?_
    refine AR_many hT 8 [3, 4, 5] [(3, (.ptr 1 0)), (4, (.ptr 2 0)), (5, (.ptr 3 0))] [.cells [(.int .i64 v8), (.int .i64 (IntKind.wrap .i64 (v9 + 1)))], .cells [(.ptr 0 0)], .cells [(.int .i64 v1), (.str v2), (.int .i64 v3), (.str v4), (.sl (l57 v5)), (.int .i64 v6)], .cells [(.int .i64 v7)]] (by kernel_rfl) ?_
    refine AR_fin (by kernel_rfl) ?_
    refine AE_seqN ?_
    refine AW_join (fun env L => ∃ (v10 : Bool), env = [(3, (.ptr 1 0)), (4, (.ptr 2 0)), (5, (.ptr 3 0)), (24, (.bool v10))] ∧ L = [.cells [(.int .i64 v8), (.int .i64 (IntKind.wrap .i64 (v9 + 1)))], .cells [(.ptr 0 0)], .cells [(.int .i64 v1), (.str v2), (.int .i64 v3), (.str v4), (.sl (l57 v5)), (.int .i64 v6)], .cells [(.int .i64 v7)]] ∧ ∃ n, n ≤ k ∧ F61_j0 n v8 v9 v1 v2 v3 v4 v5 v7 v10 = some (r1, r2)) ?_ ?_
    · rcases Bool.eq_false_or_eq_true (decide ((IntKind.wrap .i64 (v9 + 1)) > 8192)) with h1 | h1
      · replace h := bifT h1 h
        refine AW_reg ?_
        refine AR_many hT 5 [3, 4, 5, 20] [(3, (.ptr 1 0)), (4, (.ptr 2 0)), (5, (.ptr 3 0)), (20, (.bool (decide ((IntKind.wrap .i64 (v9 + 1)) > 8192))))] [.cells [(.int .i64 v8), (.int .i64 (IntKind.wrap .i64 (v9 + 1)))], .cells [(.ptr 0 0)], .cells [(.int .i64 v1), (.str v2), (.int .i64 v3), (.str v4), (.sl (l57 v5)), (.int .i64 v6)], .cells [(.int .i64 v7)]] (by kernel_rfl) ?_
        refine AR_op (by kernel_rfl) (OpJ_boolK hT (q := (decide ((IntKind.wrap .i64 (v9 + 1)) > 8192))) (by kernel_rfl) h1) ?_
        refine AR_many hT 3 [3, 4, 5, 24] [(3, (.ptr 1 0)), (4, (.ptr 2 0)), (5, (.ptr 3 0)), (24, (.bool true))] [.cells [(.int .i64 v8), (.int .i64 (IntKind.wrap .i64 (v9 + 1)))], .cells [(.ptr 0 0)], .cells [(.int .i64 v1), (.str v2), (.int .i64 v3), (.str v4), (.sl (l57 v5)), (.int .i64 v6)], .cells [(.int .i64 v7)]] (by kernel_rfl) ?_
        refine AR_fin (by kernel_rfl) ?_
        refine AE_keep [3, 4, 5, 24] (env' := [(3, (.ptr 1 0)), (4, (.ptr 2 0)), (5, (.ptr 3 0)), (24, (.bool true))]) (by kernel_rfl) ?_
        exact AE_done ⟨true, rfl, rfl, k, Nat.le_refl _, h⟩
      · replace h := bifF h1 h
        refine AW_reg ?_
        refine AR_many hT 5 [3, 4, 5, 20] [(3, (.ptr 1 0)), (4, (.ptr 2 0)), (5, (.ptr 3 0)), (20, (.bool (decide ((IntKind.wrap .i64 (v9 + 1)) > 8192))))] [.cells [(.int .i64 v8), (.int .i64 (IntKind.wrap .i64 (v9 + 1)))], .cells [(.ptr 0 0)], .cells [(.int .i64 v1), (.str v2), (.int .i64 v3), (.str v4), (.sl (l57 v5)), (.int .i64 v6)], .cells [(.int .i64 v7)]] (by kernel_rfl) ?_
        refine AR_op (by kernel_rfl) (OpJ_boolK hT (q := (decide ((IntKind.wrap .i64 (v9 + 1)) > 8192))) (by kernel_rfl) h1) ?_
        refine AR_many hT 3 [3, 4, 5, 24] [(3, (.ptr 1 0)), (4, (.ptr 2 0)), (5, (.ptr 3 0)), (24, (.bool (decide (v7 < 1))))] [.cells [(.int .i64 v8), (.int .i64 (IntKind.wrap .i64 (v9 + 1)))], .cells [(.ptr 0 0)], .cells [(.int .i64 v1), (.str v2), (.int .i64 v3), (.str v4), (.sl (l57 v5)), (.int .i64 v6)], .cells [(.int .i64 v7)]] (by kernel_rfl) ?_
        refine AR_fin (by kernel_rfl) ?_
        refine AE_keep [3, 4, 5, 24] (env' := [(3, (.ptr 1 0)), (4, (.ptr 2 0)), (5, (.ptr 3 0)), (24, (.bool (decide (v7 < 1))))]) (by kernel_rfl) ?_
        exact AE_done ⟨(decide (v7 < 1)), rfl, rfl, k, Nat.le_refl _, h⟩
    · rintro _ _ ⟨v10, rfl, rfl, n, hn, h⟩
      obtain _ | k2 := n
      · rw [F61_j0] at h; cases h
      have h3 : k2 < (k + 1) := by omega
      rw [F61_j0] at h
      rcases Bool.eq_false_or_eq_true v10 with h4 | h4
      · replace h := bifT h4 h
        refine AW_ifT (q := v10) (by kernel_rfl) h4 ?_
        refine AW_seq ?_
        refine AW_reg ?_
        refine AR_many hT 1 [6] [(6, (.bool false))] [.cells [(.int .i64 v8), (.int .i64 (IntKind.wrap .i64 (v9 + 1)))], .cells [(.ptr 0 0)], .cells [(.int .i64 v1), (.str v2), (.int .i64 v3), (.str v4), (.sl (l57 v5)), (.int .i64 v6)], .cells [(.int .i64 v7)]] (by kernel_rfl) ?_
        refine AR_fin (by kernel_rfl) ?_
        refine AE_seqN ?_
        refine AE_ret ?_
        refine AE_seqR ?_
        refine AE_keep [6] (env' := [(6, (.bool false))]) (by kernel_rfl) ?_
        simp only [Option.some.injEq, Prod.mk.injEq] at h
        obtain ⟨rfl, rfl⟩ := h
        exact AE_done ⟨trivial, by kernel_rfl, by kernel_rfl, by simp [AV.low, AV.lows, AObj.low], by simp [AV.low, AV.lows, AObj.low]⟩
      · replace h := bifF h4 h
        refine AW_ifF (q := v10) (by kernel_rfl) h4 ?_
        refine AE_skip ?_
        refine AE_seqN ?_
        refine AW_seq ?_
        refine AW_reg ?_
        refine AR_many hT 1 [3, 4, 5, 7] [(3, (.ptr 1 0)), (4, (.ptr 2 0)), (5, (.ptr 3 0)), (7, (.int .i64 0))] [.cells [(.int .i64 v8), (.int .i64 (IntKind.wrap .i64 (v9 + 1)))], .cells [(.ptr 0 0)], .cells [(.int .i64 v1), (.str v2), (.int .i64 v3), (.str v4), (.sl (l57 v5)), (.int .i64 v6)], .cells [(.int .i64 v7)]] (by kernel_rfl) ?_
        refine AR_fin (by kernel_rfl) ?_
        refine AE_seqN ?_
        refine AW_seq ?_
        refine AW_reg ?_
        refine AR_many hT 1 [3, 4, 5, 7, 8] [(3, (.ptr 1 0)), (4, (.ptr 2 0)), (5, (.ptr 3 0)), (7, (.int .i64 0)), (8, (.bool false))] [.cells [(.int .i64 v8), (.int .i64 (IntKind.wrap .i64 (v9 + 1)))], .cells [(.ptr 0 0)], .cells [(.int .i64 v1), (.str v2), (.int .i64 v3), (.str v4), (.sl (l57 v5)), (.int .i64 v6)], .cells [(.int .i64 v7)]] (by kernel_rfl) ?_
        refine AR_fin (by kernel_rfl) ?_
        refine AE_seqN ?_
        refine AW_join (fun env L => ∃ (v11 : Int) (v12 : Bool), env = [(3, (.ptr 1 0)), (4, (.ptr 2 0)), (5, (.ptr 3 0)), (7, (.int .i64 v11)), (8, (.bool v12))] ∧ L = [.cells [(.int .i64 v8), (.int .i64 (IntKind.wrap .i64 (v9 + 1)))], .cells [(.ptr 0 0)], .cells [(.int .i64 v1), (.str v2), (.int .i64 v3), (.str v4), (.sl (l57 v5)), (.int .i64 v6)], .cells [(.int .i64 v7)]] ∧ ∃ n, n ≤ k2 ∧ F61_j1 n v8 v9 v5 v7 v11 v12 = some (r1, r2)) ?_ ?_
        · refine AW_seq ?_
          refine AW_reg ?_
          refine AR_many hT 2 [3, 4, 5, 7, 8, 26] [(3, (.ptr 1 0)), (4, (.ptr 2 0)), (5, (.ptr 3 0)), (7, (.int .i64 0)), (8, (.bool false)), (26, (.int .i64 v1))] [.cells [(.int .i64 v8), (.int .i64 (IntKind.wrap .i64 (v9 + 1)))], .cells [(.ptr 0 0)], .cells [(.int .i64 v1), (.str v2), (.int .i64 v3), (.str v4), (.sl (l57 v5)), (.int .i64 v6)], .cells [(.int .i64 v7)]] (by kernel_rfl) ?_
          refine AR_fin (by kernel_rfl) ?_
          refine AE_seqN ?_
          refine AW_block ?_
          refine AW_seq ?_
          refine AW_reg ?_
          refine AR_many hT 2 [3, 4, 5, 7, 8, 26, 27] [(3, (.ptr 1 0)), (4, (.ptr 2 0)), (5, (.ptr 3 0)), (7, (.int .i64 0)), (8, (.bool false)), (26, (.int .i64 v1)), (27, (.bool (v1 == 1)))] [.cells [(.int .i64 v8), (.int .i64 (IntKind.wrap .i64 (v9 + 1)))], .cells [(.ptr 0 0)], .cells [(.int .i64 v1), (.str v2), (.int .i64 v3), (.str v4), (.sl (l57 v5)), (.int .i64 v6)], .cells [(.int .i64 v7)]] (by kernel_rfl) ?_
          refine AR_fin (by kernel_rfl) ?_
          refine AE_seqN ?_
          rcases Bool.eq_false_or_eq_true (v1 == 1) with h5 | h5
          · replace h := bifT h5 h
            refine AW_ifT (q := (v1 == 1)) (by kernel_rfl) h5 ?_
            rcases Bool.eq_false_or_eq_true (v2.toList == (ByteArray.mk #[]).toList) with h6 | h6
            · replace h := bifT h6 h
              rcases Bool.eq_false_or_eq_true (v4.toList == (ByteArray.mk #[]).toList) with h7 | h7
              · replace h := bifT h7 h
                rcases Bool.eq_false_or_eq_true (decide (v3 ≥ 0)) with h8 | h8
                · replace h := bifT h8 h
                  refine AW_reg ?_
                  refine AR_many hT 3 [3, 4, 5, 7, 8, 31] [(3, (.ptr 1 0)), (4, (.ptr 2 0)), (5, (.ptr 3 0)), (7, (.int .i64 0)), (8, (.bool false)), (31, (.bool (v2.toList == (ByteArray.mk #[]).toList)))] [.cells [(.int .i64 v8), (.int .i64 (IntKind.wrap .i64 (v9 + 1)))], .cells [(.ptr 0 0)], .cells [(.int .i64 v1), (.str v2), (.int .i64 v3), (.str v4), (.sl (l57 v5)), (.int .i64 v6)], .cells [(.int .i64 v7)]] (by kernel_rfl) ?_
                  refine AR_op (by kernel_rfl) (OpJ_boolK hT (q := (v2.toList == (ByteArray.mk #[]).toList)) (by kernel_rfl) h6) ?_
                  refine AR_many hT 4 [3, 4, 5, 7, 8, 36] [(3, (.ptr 1 0)), (4, (.ptr 2 0)), (5, (.ptr 3 0)), (7, (.int .i64 0)), (8, (.bool false)), (36, (.bool (v4.toList == (ByteArray.mk #[]).toList)))] [.cells [(.int .i64 v8), (.int .i64 (IntKind.wrap .i64 (v9 + 1)))], .cells [(.ptr 0 0)], .cells [(.int .i64 v1), (.str v2), (.int .i64 v3), (.str v4), (.sl (l57 v5)), (.int .i64 v6)], .cells [(.int .i64 v7)]] (by kernel_rfl) ?_
                  refine AR_op (by kernel_rfl) (OpJ_boolK hT (q := (v4.toList == (ByteArray.mk #[]).toList)) (by kernel_rfl) h7) ?_
                  refine AR_many hT 4 [3, 4, 5, 7, 8, 41] [(3, (.ptr 1 0)), (4, (.ptr 2 0)), (5, (.ptr 3 0)), (7, (.int .i64 0)), (8, (.bool false)), (41, (.bool (decide (v3 ≥ 0))))] [.cells [(.int .i64 v8), (.int .i64 (IntKind.wrap .i64 (v9 + 1)))], .cells [(.ptr 0 0)], .cells [(.int .i64 v1), (.str v2), (.int .i64 v3), (.str v4), (.sl (l57 v5)), (.int .i64 v6)], .cells [(.int .i64 v7)]] (by kernel_rfl) ?_
                  refine AR_op (by kernel_rfl) (OpJ_boolK hT (q := (decide (v3 ≥ 0))) (by kernel_rfl) h8) ?_
                  refine AR_many hT 5 [3, 4, 5, 7, 8] [(3, (.ptr 1 0)), (4, (.ptr 2 0)), (5, (.ptr 3 0)), (7, (.int .i64 0)), (8, (.bool (decide (v3 ≤ 65535))))] [.cells [(.int .i64 v8), (.int .i64 (IntKind.wrap .i64 (v9 + 1)))], .cells [(.ptr 0 0)], .cells [(.int .i64 v1), (.str v2), (.int .i64 v3), (.str v4), (.sl (l57 v5)), (.int .i64 v6)], .cells [(.int .i64 v7)]] (by kernel_rfl) ?_
                  refine AR_fin (by kernel_rfl) ?_
                  refine AE_blkN ?_
                  refine AE_keep [3, 4, 5, 7, 8] (env' := [(3, (.ptr 1 0)), (4, (.ptr 2 0)), (5, (.ptr 3 0)), (7, (.int .i64 0)), (8, (.bool (decide (v3 ≤ 65535))))]) (by kernel_rfl) ?_
                  exact AE_done ⟨0, (decide (v3 ≤ 65535)), rfl, rfl, k2, Nat.le_refl _, h⟩
                · replace h := bifF h8 h
                  refine AW_reg ?_
                  refine AR_many hT 3 [3, 4, 5, 7, 8, 31] [(3, (.ptr 1 0)), (4, (.ptr 2 0)), (5, (.ptr 3 0)), (7, (.int .i64 0)), (8, (.bool false)), (31, (.bool (v2.toList == (ByteArray.mk #[]).toList)))] [.cells [(.int .i64 v8), (.int .i64 (IntKind.wrap .i64 (v9 + 1)))], .cells [(.ptr 0 0)], .cells [(.int .i64 v1), (.str v2), (.int .i64 v3), (.str v4), (.sl (l57 v5)), (.int .i64 v6)], .cells [(.int .i64 v7)]] (by kernel_rfl) ?_
                  refine AR_op (by kernel_rfl) (OpJ_boolK hT (q := (v2.toList == (ByteArray.mk #[]).toList)) (by kernel_rfl) h6) ?_
                  refine AR_many hT 4 [3, 4, 5, 7, 8, 36] [(3, (.ptr 1 0)), (4, (.ptr 2 0)), (5, (.ptr 3 0)), (7, (.int .i64 0)), (8, (.bool false)), (36, (.bool (v4.toList == (ByteArray.mk #[]).toList)))] [.cells [(.int .i64 v8), (.int .i64 (IntKind.wrap .i64 (v9 + 1)))], .cells [(.ptr 0 0)], .cells [(.int .i64 v1), (.str v2), (.int .i64 v3), (.str v4), (.sl (l57 v5)), (.int .i64 v6)], .cells [(.int .i64 v7)]] (by kernel_rfl) ?_
                  refine AR_op (by kernel_rfl) (OpJ_boolK hT (q := (v4.toList == (ByteArray.mk #[]).toList)) (by kernel_rfl) h7) ?_
                  refine AR_many hT 4 [3, 4, 5, 7, 8, 41] [(3, (.ptr 1 0)), (4, (.ptr 2 0)), (5, (.ptr 3 0)), (7, (.int .i64 0)), (8, (.bool false)), (41, (.bool (decide (v3 ≥ 0))))] [.cells [(.int .i64 v8), (.int .i64 (IntKind.wrap .i64 (v9 + 1)))], .cells [(.ptr 0 0)], .cells [(.int .i64 v1), (.str v2), (.int .i64 v3), (.str v4), (.sl (l57 v5)), (.int .i64 v6)], .cells [(.int .i64 v7)]] (by kernel_rfl) ?_
                  refine AR_op (by kernel_rfl) (OpJ_boolK hT (q := (decide (v3 ≥ 0))) (by kernel_rfl) h8) ?_
                  refine AR_many hT 5 [3, 4, 5, 7, 8] [(3, (.ptr 1 0)), (4, (.ptr 2 0)), (5, (.ptr 3 0)), (7, (.int .i64 0)), (8, (.bool false))] [.cells [(.int .i64 v8), (.int .i64 (IntKind.wrap .i64 (v9 + 1)))], .cells [(.ptr 0 0)], .cells [(.int .i64 v1), (.str v2), (.int .i64 v3), (.str v4), (.sl (l57 v5)), (.int .i64 v6)], .cells [(.int .i64 v7)]] (by kernel_rfl) ?_
                  refine AR_fin (by kernel_rfl) ?_
                  refine AE_blkN ?_
                  refine AE_keep [3, 4, 5, 7, 8] (env' := [(3, (.ptr 1 0)), (4, (.ptr 2 0)), (5, (.ptr 3 0)), (7, (.int .i64 0)), (8, (.bool false))]) (by kernel_rfl) ?_
                  exact AE_done ⟨0, false, rfl, rfl, k2, Nat.le_refl _, h⟩
              · replace h := bifF h7 h
                refine AW_reg ?_
                refine AR_many hT 3 [3, 4, 5, 7, 8, 31] [(3, (.ptr 1 0)), (4, (.ptr 2 0)), (5, (.ptr 3 0)), (7, (.int .i64 0)), (8, (.bool false)), (31, (.bool (v2.toList == (ByteArray.mk #[]).toList)))] [.cells [(.int .i64 v8), (.int .i64 (IntKind.wrap .i64 (v9 + 1)))], .cells [(.ptr 0 0)], .cells [(.int .i64 v1), (.str v2), (.int .i64 v3), (.str v4), (.sl (l57 v5)), (.int .i64 v6)], .cells [(.int .i64 v7)]] (by kernel_rfl) ?_
                refine AR_op (by kernel_rfl) (OpJ_boolK hT (q := (v2.toList == (ByteArray.mk #[]).toList)) (by kernel_rfl) h6) ?_
                refine AR_many hT 4 [3, 4, 5, 7, 8, 36] [(3, (.ptr 1 0)), (4, (.ptr 2 0)), (5, (.ptr 3 0)), (7, (.int .i64 0)), (8, (.bool false)), (36, (.bool (v4.toList == (ByteArray.mk #[]).toList)))] [.cells [(.int .i64 v8), (.int .i64 (IntKind.wrap .i64 (v9 + 1)))], .cells [(.ptr 0 0)], .cells [(.int .i64 v1), (.str v2), (.int .i64 v3), (.str v4), (.sl (l57 v5)), (.int .i64 v6)], .cells [(.int .i64 v7)]] (by kernel_rfl) ?_
                refine AR_op (by kernel_rfl) (OpJ_boolK hT (q := (v4.toList == (ByteArray.mk #[]).toList)) (by kernel_rfl) h7) ?_
                refine AR_many hT 10 [3, 4, 5, 7, 8] [(3, (.ptr 1 0)), (4, (.ptr 2 0)), (5, (.ptr 3 0)), (7, (.int .i64 0)), (8, (.bool false))] [.cells [(.int .i64 v8), (.int .i64 (IntKind.wrap .i64 (v9 + 1)))], .cells [(.ptr 0 0)], .cells [(.int .i64 v1), (.str v2), (.int .i64 v3), (.str v4), (.sl (l57 v5)), (.int .i64 v6)], .cells [(.int .i64 v7)]] (by kernel_rfl) ?_
                refine AR_fin (by kernel_rfl) ?_
                refine AE_blkN ?_
                refine AE_keep [3, 4, 5, 7, 8] (env' := [(3, (.ptr 1 0)), (4, (.ptr 2 0)), (5, (.ptr 3 0)), (7, (.int .i64 0)), (8, (.bool false))]) (by kernel_rfl) ?_
                exact AE_done ⟨0, false, rfl, rfl, k2, Nat.le_refl _, h⟩
            · replace h := bifF h6 h
              refine AW_reg ?_
              refine AR_many hT 3 [3, 4, 5, 7, 8, 31] [(3, (.ptr 1 0)), (4, (.ptr 2 0)), (5, (.ptr 3 0)), (7, (.int .i64 0)), (8, (.bool false)), (31, (.bool (v2.toList == (ByteArray.mk #[]).toList)))] [.cells [(.int .i64 v8), (.int .i64 (IntKind.wrap .i64 (v9 + 1)))], .cells [(.ptr 0 0)], .cells [(.int .i64 v1), (.str v2), (.int .i64 v3), (.str v4), (.sl (l57 v5)), (.int .i64 v6)], .cells [(.int .i64 v7)]] (by kernel_rfl) ?_
              refine AR_op (by kernel_rfl) (OpJ_boolK hT (q := (v2.toList == (ByteArray.mk #[]).toList)) (by kernel_rfl) h6) ?_
              refine AR_many hT 15 [3, 4, 5, 7, 8] [(3, (.ptr 1 0)), (4, (.ptr 2 0)), (5, (.ptr 3 0)), (7, (.int .i64 0)), (8, (.bool false))] [.cells [(.int .i64 v8), (.int .i64 (IntKind.wrap .i64 (v9 + 1)))], .cells [(.ptr 0 0)], .cells [(.int .i64 v1), (.str v2), (.int .i64 v3), (.str v4), (.sl (l57 v5)), (.int .i64 v6)], .cells [(.int .i64 v7)]] (by kernel_rfl) ?_
              refine AR_fin (by kernel_rfl) ?_
              refine AE_blkN ?_
              refine AE_keep [3, 4, 5, 7, 8] (env' := [(3, (.ptr 1 0)), (4, (.ptr 2 0)), (5, (.ptr 3 0)), (7, (.int .i64 0)), (8, (.bool false))]) (by kernel_rfl) ?_
              exact AE_done ⟨0, false, rfl, rfl, k2, Nat.le_refl _, h⟩
          · replace h := bifF h5 h
            refine AW_ifF (q := (v1 == 1)) (by kernel_rfl) h5 ?_
            refine AW_seq ?_
            refine AW_reg ?_
            refine AR_many hT 2 [3, 4, 5, 7, 8, 26, 47] [(3, (.ptr 1 0)), (4, (.ptr 2 0)), (5, (.ptr 3 0)), (7, (.int .i64 0)), (8, (.bool false)), (26, (.int .i64 v1)), (47, (.bool (v1 == 2)))] [.cells [(.int .i64 v8), (.int .i64 (IntKind.wrap .i64 (v9 + 1)))], .cells [(.ptr 0 0)], .cells [(.int .i64 v1), (.str v2), (.int .i64 v3), (.str v4), (.sl (l57 v5)), (.int .i64 v6)], .cells [(.int .i64 v7)]] (by kernel_rfl) ?_
            refine AR_fin (by kernel_rfl) ?_
            refine AE_seqN ?_
            rcases Bool.eq_false_or_eq_true (v1 == 2) with h9 | h9
            · replace h := bifT h9 h
              refine AW_ifT (q := (v1 == 2)) (by kernel_rfl) h9 ?_
              rcases Bool.eq_false_or_eq_true (v2.toList == (ByteArray.mk #[]).toList) with h10 | h10
              · replace h := bifT h10 h
                rcases Bool.eq_false_or_eq_true (v3 == 0) with h11 | h11
                · replace h := bifT h11 h
                  obtain ⟨v13, h12, h⟩ := Option.bind_eq_some_iff.mp h
                  try dsimp only at h
                  refine AW_reg ?_
                  refine AR_many hT 3 [3, 4, 5, 7, 8, 51] [(3, (.ptr 1 0)), (4, (.ptr 2 0)), (5, (.ptr 3 0)), (7, (.int .i64 0)), (8, (.bool false)), (51, (.bool (v2.toList == (ByteArray.mk #[]).toList)))] [.cells [(.int .i64 v8), (.int .i64 (IntKind.wrap .i64 (v9 + 1)))], .cells [(.ptr 0 0)], .cells [(.int .i64 v1), (.str v2), (.int .i64 v3), (.str v4), (.sl (l57 v5)), (.int .i64 v6)], .cells [(.int .i64 v7)]] (by kernel_rfl) ?_
                  refine AR_op (by kernel_rfl) (OpJ_boolK hT (q := (v2.toList == (ByteArray.mk #[]).toList)) (by kernel_rfl) h10) ?_
                  refine AR_many hT 4 [3, 4, 5, 7, 8, 56] [(3, (.ptr 1 0)), (4, (.ptr 2 0)), (5, (.ptr 3 0)), (7, (.int .i64 0)), (8, (.bool false)), (56, (.bool (v3 == 0)))] [.cells [(.int .i64 v8), (.int .i64 (IntKind.wrap .i64 (v9 + 1)))], .cells [(.ptr 0 0)], .cells [(.int .i64 v1), (.str v2), (.int .i64 v3), (.str v4), (.sl (l57 v5)), (.int .i64 v6)], .cells [(.int .i64 v7)]] (by kernel_rfl) ?_
                  refine AR_op (by kernel_rfl) (OpJ_boolK hT (q := (v3 == 0)) (by kernel_rfl) h11) ?_
                  refine AR_many hT 2 [3, 4, 5, 7, 8, 57, 59] [(3, (.ptr 1 0)), (4, (.ptr 2 0)), (5, (.ptr 3 0)), (7, (.int .i64 0)), (8, (.bool false)), (57, (.bool true)), (59, (.str v4))] [.cells [(.int .i64 v8), (.int .i64 (IntKind.wrap .i64 (v9 + 1)))], .cells [(.ptr 0 0)], .cells [(.int .i64 v1), (.str v2), (.int .i64 v3), (.str v4), (.sl (l57 v5)), (.int .i64 v6)], .cells [(.int .i64 v7)]] (by kernel_rfl) ?_
                  refine AR_op (by kernel_rfl) (OpJ_callK (g := 75) (args := [(.str v4)]) (by kernel_rfl) Go.Proofs.Try.func75 (by kernel_rfl) (by kernel_rfl) (Fn_pure (F75_ok k2 v4 v13 h12) (by simp [AV.low, AV.lows, AObj.low]) (by simp [AV.low, AV.lows, AObj.low]))) ?_
                  refine AR_many hT 2 [3, 4, 5, 7, 8] [(3, (.ptr 1 0)), (4, (.ptr 2 0)), (5, (.ptr 3 0)), (7, (.int .i64 0)), (8, (.bool v13))] [.cells [(.int .i64 v8), (.int .i64 (IntKind.wrap .i64 (v9 + 1)))], .cells [(.ptr 0 0)], .cells [(.int .i64 v1), (.str v2), (.int .i64 v3), (.str v4), (.sl (l57 v5)), (.int .i64 v6)], .cells [(.int .i64 v7)]] (by kernel_rfl) ?_
                  refine AR_fin (by kernel_rfl) ?_
                  refine AE_blkN ?_
                  refine AE_keep [3, 4, 5, 7, 8] (env' := [(3, (.ptr 1 0)), (4, (.ptr 2 0)), (5, (.ptr 3 0)), (7, (.int .i64 0)), (8, (.bool v13))]) (by kernel_rfl) ?_
                  exact AE_done ⟨0, v13, rfl, rfl, k2, Nat.le_refl _, h⟩
                · replace h := bifF h11 h
                  refine AW_reg ?_
                  refine AR_many hT 3 [3, 4, 5, 7, 8, 51] [(3, (.ptr 1 0)), (4, (.ptr 2 0)), (5, (.ptr 3 0)), (7, (.int .i64 0)), (8, (.bool false)), (51, (.bool (v2.toList == (ByteArray.mk #[]).toList)))] [.cells [(.int .i64 v8), (.int .i64 (IntKind.wrap .i64 (v9 + 1)))], .cells [(.ptr 0 0)], .cells [(.int .i64 v1), (.str v2), (.int .i64 v3), (.str v4), (.sl (l57 v5)), (.int .i64 v6)], .cells [(.int .i64 v7)]] (by kernel_rfl) ?_
                  refine AR_op (by kernel_rfl) (OpJ_boolK hT (q := (v2.toList == (ByteArray.mk #[]).toList)) (by kernel_rfl) h10) ?_
                  refine AR_many hT 4 [3, 4, 5, 7, 8, 56] [(3, (.ptr 1 0)), (4, (.ptr 2 0)), (5, (.ptr 3 0)), (7, (.int .i64 0)), (8, (.bool false)), (56, (.bool (v3 == 0)))] [.cells [(.int .i64 v8), (.int .i64 (IntKind.wrap .i64 (v9 + 1)))], .cells [(.ptr 0 0)], .cells [(.int .i64 v1), (.str v2), (.int .i64 v3), (.str v4), (.sl (l57 v5)), (.int .i64 v6)], .cells [(.int .i64 v7)]] (by kernel_rfl) ?_
                  refine AR_op (by kernel_rfl) (OpJ_boolK hT (q := (v3 == 0)) (by kernel_rfl) h11) ?_
                  refine AR_many hT 5 [3, 4, 5, 7, 8] [(3, (.ptr 1 0)), (4, (.ptr 2 0)), (5, (.ptr 3 0)), (7, (.int .i64 0)), (8, (.bool false))] [.cells [(.int .i64 v8), (.int .i64 (IntKind.wrap .i64 (v9 + 1)))], .cells [(.ptr 0 0)], .cells [(.int .i64 v1), (.str v2), (.int .i64 v3), (.str v4), (.sl (l57 v5)), (.int .i64 v6)], .cells [(.int .i64 v7)]] (by kernel_rfl) ?_
                  refine AR_fin (by kernel_rfl) ?_
                  refine AE_blkN ?_
                  refine AE_keep [3, 4, 5, 7, 8] (env' := [(3, (.ptr 1 0)), (4, (.ptr 2 0)), (5, (.ptr 3 0)), (7, (.int .i64 0)), (8, (.bool false))]) (by kernel_rfl) ?_
                  exact AE_done ⟨0, false, rfl, rfl, k2, Nat.le_refl _, h⟩
              · replace h := bifF h10 h
                refine AW_reg ?_
                refine AR_many hT 3 [3, 4, 5, 7, 8, 51] [(3, (.ptr 1 0)), (4, (.ptr 2 0)), (5, (.ptr 3 0)), (7, (.int .i64 0)), (8, (.bool false)), (51, (.bool (v2.toList == (ByteArray.mk #[]).toList)))] [.cells [(.int .i64 v8), (.int .i64 (IntKind.wrap .i64 (v9 + 1)))], .cells [(.ptr 0 0)], .cells [(.int .i64 v1), (.str v2), (.int .i64 v3), (.str v4), (.sl (l57 v5)), (.int .i64 v6)], .cells [(.int .i64 v7)]] (by kernel_rfl) ?_
                refine AR_op (by kernel_rfl) (OpJ_boolK hT (q := (v2.toList == (ByteArray.mk #[]).toList)) (by kernel_rfl) h10) ?_
                refine AR_many hT 10 [3, 4, 5, 7, 8] [(3, (.ptr 1 0)), (4, (.ptr 2 0)), (5, (.ptr 3 0)), (7, (.int .i64 0)), (8, (.bool false))] [.cells [(.int .i64 v8), (.int .i64 (IntKind.wrap .i64 (v9 + 1)))], .cells [(.ptr 0 0)], .cells [(.int .i64 v1), (.str v2), (.int .i64 v3), (.str v4), (.sl (l57 v5)), (.int .i64 v6)], .cells [(.int .i64 v7)]] (by kernel_rfl) ?_
                refine AR_fin (by kernel_rfl) ?_
                refine AE_blkN ?_
                refine AE_keep [3, 4, 5, 7, 8] (env' := [(3, (.ptr 1 0)), (4, (.ptr 2 0)), (5, (.ptr 3 0)), (7, (.int .i64 0)), (8, (.bool false))]) (by kernel_rfl) ?_
                exact AE_done ⟨0, false, rfl, rfl, k2, Nat.le_refl _, h⟩
            · replace h := bifF h9 h
              refine AW_ifF (q := (v1 == 2)) (by kernel_rfl) h9 ?_
              refine AW_seq ?_
              refine AW_reg ?_
              refine AR_many hT 2 [3, 4, 5, 7, 8, 26, 62] [(3, (.ptr 1 0)), (4, (.ptr 2 0)), (5, (.ptr 3 0)), (7, (.int .i64 0)), (8, (.bool false)), (26, (.int .i64 v1)), (62, (.bool (v1 == 3)))] [.cells [(.int .i64 v8), (.int .i64 (IntKind.wrap .i64 (v9 + 1)))], .cells [(.ptr 0 0)], .cells [(.int .i64 v1), (.str v2), (.int .i64 v3), (.str v4), (.sl (l57 v5)), (.int .i64 v6)], .cells [(.int .i64 v7)]] (by kernel_rfl) ?_
              refine AR_fin (by kernel_rfl) ?_
              refine AE_seqN ?_
              rcases Bool.eq_false_or_eq_true (v1 == 3) with h13 | h13
              · replace h := bifT h13 h
                refine AW_ifT (q := (v1 == 3)) (by kernel_rfl) h13 ?_
                refine AW_seq ?_
                refine AW_reg ?_
                refine AR_many hT 1 [3, 4, 5, 7] [(3, (.ptr 1 0)), (4, (.ptr 2 0)), (5, (.ptr 3 0)), (7, (.int .i64 1))] [.cells [(.int .i64 v8), (.int .i64 (IntKind.wrap .i64 (v9 + 1)))], .cells [(.ptr 0 0)], .cells [(.int .i64 v1), (.str v2), (.int .i64 v3), (.str v4), (.sl (l57 v5)), (.int .i64 v6)], .cells [(.int .i64 v7)]] (by kernel_rfl) ?_
                refine AR_fin (by kernel_rfl) ?_
                refine AE_seqN ?_
                rcases Bool.eq_false_or_eq_true (v2.toList == (ByteArray.mk #[45]).toList) with h14 | h14
                · replace h := bifT h14 h
                  rcases Bool.eq_false_or_eq_true (v3 == 0) with h15 | h15
                  · replace h := bifT h15 h
                    refine AW_reg ?_
                    refine AR_many hT 3 [3, 4, 5, 7, 66] [(3, (.ptr 1 0)), (4, (.ptr 2 0)), (5, (.ptr 3 0)), (7, (.int .i64 1)), (66, (.bool (v2.toList == (ByteArray.mk #[45]).toList)))] [.cells [(.int .i64 v8), (.int .i64 (IntKind.wrap .i64 (v9 + 1)))], .cells [(.ptr 0 0)], .cells [(.int .i64 v1), (.str v2), (.int .i64 v3), (.str v4), (.sl (l57 v5)), (.int .i64 v6)], .cells [(.int .i64 v7)]] (by kernel_rfl) ?_
                    refine AR_op (by kernel_rfl) (OpJ_boolK hT (q := (v2.toList == (ByteArray.mk #[45]).toList)) (by kernel_rfl) h14) ?_
                    refine AR_many hT 14 [3, 4, 5, 7, 81] [(3, (.ptr 1 0)), (4, (.ptr 2 0)), (5, (.ptr 3 0)), (7, (.int .i64 1)), (81, (.bool (v3 == 0)))] [.cells [(.int .i64 v8), (.int .i64 (IntKind.wrap .i64 (v9 + 1)))], .cells [(.ptr 0 0)], .cells [(.int .i64 v1), (.str v2), (.int .i64 v3), (.str v4), (.sl (l57 v5)), (.int .i64 v6)], .cells [(.int .i64 v7)]] (by kernel_rfl) ?_
                    refine AR_op (by kernel_rfl) (OpJ_boolK hT (q := (v3 == 0)) (by kernel_rfl) h15) ?_
                    refine AR_many hT 5 [3, 4, 5, 7, 8] [(3, (.ptr 1 0)), (4, (.ptr 2 0)), (5, (.ptr 3 0)), (7, (.int .i64 1)), (8, (.bool (v4.toList == (ByteArray.mk #[]).toList)))] [.cells [(.int .i64 v8), (.int .i64 (IntKind.wrap .i64 (v9 + 1)))], .cells [(.ptr 0 0)], .cells [(.int .i64 v1), (.str v2), (.int .i64 v3), (.str v4), (.sl (l57 v5)), (.int .i64 v6)], .cells [(.int .i64 v7)]] (by kernel_rfl) ?_
                    refine AR_fin (by kernel_rfl) ?_
                    refine AE_blkN ?_
                    refine AE_keep [3, 4, 5, 7, 8] (env' := [(3, (.ptr 1 0)), (4, (.ptr 2 0)), (5, (.ptr 3 0)), (7, (.int .i64 1)), (8, (.bool (v4.toList == (ByteArray.mk #[]).toList)))]) (by kernel_rfl) ?_
                    exact AE_done ⟨1, (v4.toList == (ByteArray.mk #[]).toList), rfl, rfl, k2, Nat.le_refl _, h⟩
                  · replace h := bifF h15 h
                    refine AW_reg ?_
                    refine AR_many hT 3 [3, 4, 5, 7, 66] [(3, (.ptr 1 0)), (4, (.ptr 2 0)), (5, (.ptr 3 0)), (7, (.int .i64 1)), (66, (.bool (v2.toList == (ByteArray.mk #[45]).toList)))] [.cells [(.int .i64 v8), (.int .i64 (IntKind.wrap .i64 (v9 + 1)))], .cells [(.ptr 0 0)], .cells [(.int .i64 v1), (.str v2), (.int .i64 v3), (.str v4), (.sl (l57 v5)), (.int .i64 v6)], .cells [(.int .i64 v7)]] (by kernel_rfl) ?_
                    refine AR_op (by kernel_rfl) (OpJ_boolK hT (q := (v2.toList == (ByteArray.mk #[45]).toList)) (by kernel_rfl) h14) ?_
                    refine AR_many hT 14 [3, 4, 5, 7, 81] [(3, (.ptr 1 0)), (4, (.ptr 2 0)), (5, (.ptr 3 0)), (7, (.int .i64 1)), (81, (.bool (v3 == 0)))] [.cells [(.int .i64 v8), (.int .i64 (IntKind.wrap .i64 (v9 + 1)))], .cells [(.ptr 0 0)], .cells [(.int .i64 v1), (.str v2), (.int .i64 v3), (.str v4), (.sl (l57 v5)), (.int .i64 v6)], .cells [(.int .i64 v7)]] (by kernel_rfl) ?_
                    refine AR_op (by kernel_rfl) (OpJ_boolK hT (q := (v3 == 0)) (by kernel_rfl) h15) ?_
                    refine AR_many hT 5 [3, 4, 5, 7, 8] [(3, (.ptr 1 0)), (4, (.ptr 2 0)), (5, (.ptr 3 0)), (7, (.int .i64 1)), (8, (.bool false))] [.cells [(.int .i64 v8), (.int .i64 (IntKind.wrap .i64 (v9 + 1)))], .cells [(.ptr 0 0)], .cells [(.int .i64 v1), (.str v2), (.int .i64 v3), (.str v4), (.sl (l57 v5)), (.int .i64 v6)], .cells [(.int .i64 v7)]] (by kernel_rfl) ?_
                    refine AR_fin (by kernel_rfl) ?_
                    refine AE_blkN ?_
                    refine AE_keep [3, 4, 5, 7, 8] (env' := [(3, (.ptr 1 0)), (4, (.ptr 2 0)), (5, (.ptr 3 0)), (7, (.int .i64 1)), (8, (.bool false))]) (by kernel_rfl) ?_
                    exact AE_done ⟨1, false, rfl, rfl, k2, Nat.le_refl _, h⟩
                · replace h := bifF h14 h
                  rcases Bool.eq_false_or_eq_true (v2.toList == (ByteArray.mk #[126]).toList) with h16 | h16
                  · replace h := bifT h16 h
                    rcases Bool.eq_false_or_eq_true (v3 == 0) with h17 | h17
                    · replace h := bifT h17 h
                      refine AW_reg ?_
                      refine AR_many hT 3 [3, 4, 5, 7, 66] [(3, (.ptr 1 0)), (4, (.ptr 2 0)), (5, (.ptr 3 0)), (7, (.int .i64 1)), (66, (.bool (v2.toList == (ByteArray.mk #[45]).toList)))] [.cells [(.int .i64 v8), (.int .i64 (IntKind.wrap .i64 (v9 + 1)))], .cells [(.ptr 0 0)], .cells [(.int .i64 v1), (.str v2), (.int .i64 v3), (.str v4), (.sl (l57 v5)), (.int .i64 v6)], .cells [(.int .i64 v7)]] (by kernel_rfl) ?_
                      refine AR_op (by kernel_rfl) (OpJ_boolK hT (q := (v2.toList == (ByteArray.mk #[45]).toList)) (by kernel_rfl) h14) ?_
                      refine AR_many hT 4 [3, 4, 5, 7, 71] [(3, (.ptr 1 0)), (4, (.ptr 2 0)), (5, (.ptr 3 0)), (7, (.int .i64 1)), (71, (.bool (v2.toList == (ByteArray.mk #[126]).toList)))] [.cells [(.int .i64 v8), (.int .i64 (IntKind.wrap .i64 (v9 + 1)))], .cells [(.ptr 0 0)], .cells [(.int .i64 v1), (.str v2), (.int .i64 v3), (.str v4), (.sl (l57 v5)), (.int .i64 v6)], .cells [(.int .i64 v7)]] (by kernel_rfl) ?_
                      refine AR_op (by kernel_rfl) (OpJ_boolK hT (q := (v2.toList == (ByteArray.mk #[126]).toList)) (by kernel_rfl) h16) ?_
                      refine AR_many hT 9 [3, 4, 5, 7, 81] [(3, (.ptr 1 0)), (4, (.ptr 2 0)), (5, (.ptr 3 0)), (7, (.int .i64 1)), (81, (.bool (v3 == 0)))] [.cells [(.int .i64 v8), (.int .i64 (IntKind.wrap .i64 (v9 + 1)))], .cells [(.ptr 0 0)], .cells [(.int .i64 v1), (.str v2), (.int .i64 v3), (.str v4), (.sl (l57 v5)), (.int .i64 v6)], .cells [(.int .i64 v7)]] (by kernel_rfl) ?_
                      refine AR_op (by kernel_rfl) (OpJ_boolK hT (q := (v3 == 0)) (by kernel_rfl) h17) ?_
                      refine AR_many hT 5 [3, 4, 5, 7, 8] [(3, (.ptr 1 0)), (4, (.ptr 2 0)), (5, (.ptr 3 0)), (7, (.int .i64 1)), (8, (.bool (v4.toList == (ByteArray.mk #[]).toList)))] [.cells [(.int .i64 v8), (.int .i64 (IntKind.wrap .i64 (v9 + 1)))], .cells [(.ptr 0 0)], .cells [(.int .i64 v1), (.str v2), (.int .i64 v3), (.str v4), (.sl (l57 v5)), (.int .i64 v6)], .cells [(.int .i64 v7)]] (by kernel_rfl) ?_
                      refine AR_fin (by kernel_rfl) ?_
                      refine AE_blkN ?_
                      refine AE_keep [3, 4, 5, 7, 8] (env' := [(3, (.ptr 1 0)), (4, (.ptr 2 0)), (5, (.ptr 3 0)), (7, (.int .i64 1)), (8, (.bool (v4.toList == (ByteArray.mk #[]).toList)))]) (by kernel_rfl) ?_
                      exact AE_done ⟨1, (v4.toList == (ByteArray.mk #[]).toList), rfl, rfl, k2, Nat.le_refl _, h⟩
                    · replace h := bifF h17 h
                      refine AW_reg ?_
                      refine AR_many hT 3 [3, 4, 5, 7, 66] [(3, (.ptr 1 0)), (4, (.ptr 2 0)), (5, (.ptr 3 0)), (7, (.int .i64 1)), (66, (.bool (v2.toList == (ByteArray.mk #[45]).toList)))] [.cells [(.int .i64 v8), (.int .i64 (IntKind.wrap .i64 (v9 + 1)))], .cells [(.ptr 0 0)], .cells [(.int .i64 v1), (.str v2), (.int .i64 v3), (.str v4), (.sl (l57 v5)), (.int .i64 v6)], .cells [(.int .i64 v7)]] (by kernel_rfl) ?_
                      refine AR_op (by kernel_rfl) (OpJ_boolK hT (q := (v2.toList == (ByteArray.mk #[45]).toList)) (by kernel_rfl) h14) ?_
                      refine AR_many hT 4 [3, 4, 5, 7, 71] [(3, (.ptr 1 0)), (4, (.ptr 2 0)), (5, (.ptr 3 0)), (7, (.int .i64 1)), (71, (.bool (v2.toList == (ByteArray.mk #[126]).toList)))] [.cells [(.int .i64 v8), (.int .i64 (IntKind.wrap .i64 (v9 + 1)))], .cells [(.ptr 0 0)], .cells [(.int .i64 v1), (.str v2), (.int .i64 v3), (.str v4), (.sl (l57 v5)), (.int .i64 v6)], .cells [(.int .i64 v7)]] (by kernel_rfl) ?_
                      refine AR_op (by kernel_rfl) (OpJ_boolK hT (q := (v2.toList == (ByteArray.mk #[126]).toList)) (by kernel_rfl) h16) ?_
                      refine AR_many hT 9 [3, 4, 5, 7, 81] [(3, (.ptr 1 0)), (4, (.ptr 2 0)), (5, (.ptr 3 0)), (7, (.int .i64 1)), (81, (.bool (v3 == 0)))] [.cells [(.int .i64 v8), (.int .i64 (IntKind.wrap .i64 (v9 + 1)))], .cells [(.ptr 0 0)], .cells [(.int .i64 v1), (.str v2), (.int .i64 v3), (.str v4), (.sl (l57 v5)), (.int .i64 v6)], .cells [(.int .i64 v7)]] (by kernel_rfl) ?_
                      refine AR_op (by kernel_rfl) (OpJ_boolK hT (q := (v3 == 0)) (by kernel_rfl) h17) ?_
                      refine AR_many hT 5 [3, 4, 5, 7, 8] [(3, (.ptr 1 0)), (4, (.ptr 2 0)), (5, (.ptr 3 0)), (7, (.int .i64 1)), (8, (.bool false))] [.cells [(.int .i64 v8), (.int .i64 (IntKind.wrap .i64 (v9 + 1)))], .cells [(.ptr 0 0)], .cells [(.int .i64 v1), (.str v2), (.int .i64 v3), (.str v4), (.sl (l57 v5)), (.int .i64 v6)], .cells [(.int .i64 v7)]] (by kernel_rfl) ?_
                      refine AR_fin (by kernel_rfl) ?_
                      refine AE_blkN ?_
                      refine AE_keep [3, 4, 5, 7, 8] (env' := [(3, (.ptr 1 0)), (4, (.ptr 2 0)), (5, (.ptr 3 0)), (7, (.int .i64 1)), (8, (.bool false))]) (by kernel_rfl) ?_
                      exact AE_done ⟨1, false, rfl, rfl, k2, Nat.le_refl _, h⟩
                  · replace h := bifF h16 h
                    rcases Bool.eq_false_or_eq_true (v2.toList == (ByteArray.mk #[33]).toList) with h18 | h18
                    · replace h := bifT h18 h
                      rcases Bool.eq_false_or_eq_true (v3 == 0) with h19 | h19
                      · replace h := bifT h19 h
                        refine AW_reg ?_
                        refine AR_many hT 3 [3, 4, 5, 7, 66] [(3, (.ptr 1 0)), (4, (.ptr 2 0)), (5, (.ptr 3 0)), (7, (.int .i64 1)), (66, (.bool (v2.toList == (ByteArray.mk #[45]).toList)))] [.cells [(.int .i64 v8), (.int .i64 (IntKind.wrap .i64 (v9 + 1)))], .cells [(.ptr 0 0)], .cells [(.int .i64 v1), (.str v2), (.int .i64 v3), (.str v4), (.sl (l57 v5)), (.int .i64 v6)], .cells [(.int .i64 v7)]] (by kernel_rfl) ?_
                        refine AR_op (by kernel_rfl) (OpJ_boolK hT (q := (v2.toList == (ByteArray.mk #[45]).toList)) (by kernel_rfl) h14) ?_
                        refine AR_many hT 4 [3, 4, 5, 7, 71] [(3, (.ptr 1 0)), (4, (.ptr 2 0)), (5, (.ptr 3 0)), (7, (.int .i64 1)), (71, (.bool (v2.toList == (ByteArray.mk #[126]).toList)))] [.cells [(.int .i64 v8), (.int .i64 (IntKind.wrap .i64 (v9 + 1)))], .cells [(.ptr 0 0)], .cells [(.int .i64 v1), (.str v2), (.int .i64 v3), (.str v4), (.sl (l57 v5)), (.int .i64 v6)], .cells [(.int .i64 v7)]] (by kernel_rfl) ?_
                        refine AR_op (by kernel_rfl) (OpJ_boolK hT (q := (v2.toList == (ByteArray.mk #[126]).toList)) (by kernel_rfl) h16) ?_
                        refine AR_many hT 4 [3, 4, 5, 7, 76] [(3, (.ptr 1 0)), (4, (.ptr 2 0)), (5, (.ptr 3 0)), (7, (.int .i64 1)), (76, (.bool (v2.toList == (ByteArray.mk #[33]).toList)))] [.cells [(.int .i64 v8), (.int .i64 (IntKind.wrap .i64 (v9 + 1)))], .cells [(.ptr 0 0)], .cells [(.int .i64 v1), (.str v2), (.int .i64 v3), (.str v4), (.sl (l57 v5)), (.int .i64 v6)], .cells [(.int .i64 v7)]] (by kernel_rfl) ?_
                        refine AR_op (by kernel_rfl) (OpJ_boolK hT (q := (v2.toList == (ByteArray.mk #[33]).toList)) (by kernel_rfl) h18) ?_
                        refine AR_many hT 4 [3, 4, 5, 7, 81] [(3, (.ptr 1 0)), (4, (.ptr 2 0)), (5, (.ptr 3 0)), (7, (.int .i64 1)), (81, (.bool (v3 == 0)))] [.cells [(.int .i64 v8), (.int .i64 (IntKind.wrap .i64 (v9 + 1)))], .cells [(.ptr 0 0)], .cells [(.int .i64 v1), (.str v2), (.int .i64 v3), (.str v4), (.sl (l57 v5)), (.int .i64 v6)], .cells [(.int .i64 v7)]] (by kernel_rfl) ?_
                        refine AR_op (by kernel_rfl) (OpJ_boolK hT (q := (v3 == 0)) (by kernel_rfl) h19) ?_
                        refine AR_many hT 5 [3, 4, 5, 7, 8] [(3, (.ptr 1 0)), (4, (.ptr 2 0)), (5, (.ptr 3 0)), (7, (.int .i64 1)), (8, (.bool (v4.toList == (ByteArray.mk #[]).toList)))] [.cells [(.int .i64 v8), (.int .i64 (IntKind.wrap .i64 (v9 + 1)))], .cells [(.ptr 0 0)], .cells [(.int .i64 v1), (.str v2), (.int .i64 v3), (.str v4), (.sl (l57 v5)), (.int .i64 v6)], .cells [(.int .i64 v7)]] (by kernel_rfl) ?_
                        refine AR_fin (by kernel_rfl) ?_
                        refine AE_blkN ?_
                        refine AE_keep [3, 4, 5, 7, 8] (env' := [(3, (.ptr 1 0)), (4, (.ptr 2 0)), (5, (.ptr 3 0)), (7, (.int .i64 1)), (8, (.bool (v4.toList == (ByteArray.mk #[]).toList)))]) (by kernel_rfl) ?_
                        exact AE_done ⟨1, (v4.toList == (ByteArray.mk #[]).toList), rfl, rfl, k2, Nat.le_refl _, h⟩
                      · replace h := bifF h19 h
                        refine AW_reg ?_
                        refine AR_many hT 3 [3, 4, 5, 7, 66] [(3, (.ptr 1 0)), (4, (.ptr 2 0)), (5, (.ptr 3 0)), (7, (.int .i64 1)), (66, (.bool (v2.toList == (ByteArray.mk #[45]).toList)))] [.cells [(.int .i64 v8), (.int .i64 (IntKind.wrap .i64 (v9 + 1)))], .cells [(.ptr 0 0)], .cells [(.int .i64 v1), (.str v2), (.int .i64 v3), (.str v4), (.sl (l57 v5)), (.int .i64 v6)], .cells [(.int .i64 v7)]] (by kernel_rfl) ?_
                        refine AR_op (by kernel_rfl) (OpJ_boolK hT (q := (v2.toList == (ByteArray.mk #[45]).toList)) (by kernel_rfl) h14) ?_
                        refine AR_many hT 4 [3, 4, 5, 7, 71] [(3, (.ptr 1 0)), (4, (.ptr 2 0)), (5, (.ptr 3 0)), (7, (.int .i64 1)), (71, (.bool (v2.toList == (ByteArray.mk #[126]).toList)))] [.cells [(.int .i64 v8), (.int .i64 (IntKind.wrap .i64 (v9 + 1)))], .cells [(.ptr 0 0)], .cells [(.int .i64 v1), (.str v2), (.int .i64 v3), (.str v4), (.sl (l57 v5)), (.int .i64 v6)], .cells [(.int .i64 v7)]] (by kernel_rfl) ?_
                        refine AR_op (by kernel_rfl) (OpJ_boolK hT (q := (v2.toList == (ByteArray.mk #[126]).toList)) (by kernel_rfl) h16) ?_
                        refine AR_many hT 4 [3, 4, 5, 7, 76] [(3, (.ptr 1 0)), (4, (.ptr 2 0)), (5, (.ptr 3 0)), (7, (.int .i64 1)), (76, (.bool (v2.toList == (ByteArray.mk #[33]).toList)))] [.cells [(.int .i64 v8), (.int .i64 (IntKind.wrap .i64 (v9 + 1)))], .cells [(.ptr 0 0)], .cells [(.int .i64 v1), (.str v2), (.int .i64 v3), (.str v4), (.sl (l57 v5)), (.int .i64 v6)], .cells [(.int .i64 v7)]] (by kernel_rfl) ?_
                        refine AR_op (by kernel_rfl) (OpJ_boolK hT (q := (v2.toList == (ByteArray.mk #[33]).toList)) (by kernel_rfl) h18) ?_
                        refine AR_many hT 4 [3, 4, 5, 7, 81] [(3, (.ptr 1 0)), (4, (.ptr 2 0)), (5, (.ptr 3 0)), (7, (.int .i64 1)), (81, (.bool (v3 == 0)))] [.cells [(.int .i64 v8), (.int .i64 (IntKind.wrap .i64 (v9 + 1)))], .cells [(.ptr 0 0)], .cells [(.int .i64 v1), (.str v2), (.int .i64 v3), (.str v4), (.sl (l57 v5)), (.int .i64 v6)], .cells [(.int .i64 v7)]] (by kernel_rfl) ?_
                        refine AR_op (by kernel_rfl) (OpJ_boolK hT (q := (v3 == 0)) (by kernel_rfl) h19) ?_
                        refine AR_many hT 5 [3, 4, 5, 7, 8] [(3, (.ptr 1 0)), (4, (.ptr 2 0)), (5, (.ptr 3 0)), (7, (.int .i64 1)), (8, (.bool false))] [.cells [(.int .i64 v8), (.int .i64 (IntKind.wrap .i64 (v9 + 1)))], .cells [(.ptr 0 0)], .cells [(.int .i64 v1), (.str v2), (.int .i64 v3), (.str v4), (.sl (l57 v5)), (.int .i64 v6)], .cells [(.int .i64 v7)]] (by kernel_rfl) ?_
                        refine AR_fin (by kernel_rfl) ?_
                        refine AE_blkN ?_
                        refine AE_keep [3, 4, 5, 7, 8] (env' := [(3, (.ptr 1 0)), (4, (.ptr 2 0)), (5, (.ptr 3 0)), (7, (.int .i64 1)), (8, (.bool false))]) (by kernel_rfl) ?_
                        exact AE_done ⟨1, false, rfl, rfl, k2, Nat.le_refl _, h⟩
                    · replace h := bifF h18 h
                      refine AW_reg ?_
                      refine AR_many hT 3 [3, 4, 5, 7, 66] [(3, (.ptr 1 0)), (4, (.ptr 2 0)), (5, (.ptr 3 0)), (7, (.int .i64 1)), (66, (.bool (v2.toList == (ByteArray.mk #[45]).toList)))] [.cells [(.int .i64 v8), (.int .i64 (IntKind.wrap .i64 (v9 + 1)))], .cells [(.ptr 0 0)], .cells [(.int .i64 v1), (.str v2), (.int .i64 v3), (.str v4), (.sl (l57 v5)), (.int .i64 v6)], .cells [(.int .i64 v7)]] (by kernel_rfl) ?_
                      refine AR_op (by kernel_rfl) (OpJ_boolK hT (q := (v2.toList == (ByteArray.mk #[45]).toList)) (by kernel_rfl) h14) ?_
                      refine AR_many hT 4 [3, 4, 5, 7, 71] [(3, (.ptr 1 0)), (4, (.ptr 2 0)), (5, (.ptr 3 0)), (7, (.int .i64 1)), (71, (.bool (v2.toList == (ByteArray.mk #[126]).toList)))] [.cells [(.int .i64 v8), (.int .i64 (IntKind.wrap .i64 (v9 + 1)))], .cells [(.ptr 0 0)], .cells [(.int .i64 v1), (.str v2), (.int .i64 v3), (.str v4), (.sl (l57 v5)), (.int .i64 v6)], .cells [(.int .i64 v7)]] (by kernel_rfl) ?_
                      refine AR_op (by kernel_rfl) (OpJ_boolK hT (q := (v2.toList == (ByteArray.mk #[126]).toList)) (by kernel_rfl) h16) ?_
                      refine AR_many hT 4 [3, 4, 5, 7, 76] [(3, (.ptr 1 0)), (4, (.ptr 2 0)), (5, (.ptr 3 0)), (7, (.int .i64 1)), (76, (.bool (v2.toList == (ByteArray.mk #[33]).toList)))] [.cells [(.int .i64 v8), (.int .i64 (IntKind.wrap .i64 (v9 + 1)))], .cells [(.ptr 0 0)], .cells [(.int .i64 v1), (.str v2), (.int .i64 v3), (.str v4), (.sl (l57 v5)), (.int .i64 v6)], .cells [(.int .i64 v7)]] (by kernel_rfl) ?_
                      refine AR_op (by kernel_rfl) (OpJ_boolK hT (q := (v2.toList == (ByteArray.mk #[33]).toList)) (by kernel_rfl) h18) ?_
                      refine AR_many hT 10 [3, 4, 5, 7, 8] [(3, (.ptr 1 0)), (4, (.ptr 2 0)), (5, (.ptr 3 0)), (7, (.int .i64 1)), (8, (.bool false))] [.cells [(.int .i64 v8), (.int .i64 (IntKind.wrap .i64 (v9 + 1)))], .cells [(.ptr 0 0)], .cells [(.int .i64 v1), (.str v2), (.int .i64 v3), (.str v4), (.sl (l57 v5)), (.int .i64 v6)], .cells [(.int .i64 v7)]] (by kernel_rfl) ?_
                      refine AR_fin (by kernel_rfl) ?_
                      refine AE_blkN ?_
                      refine AE_keep [3, 4, 5, 7, 8] (env' := [(3, (.ptr 1 0)), (4, (.ptr 2 0)), (5, (.ptr 3 0)), (7, (.int .i64 1)), (8, (.bool false))]) (by kernel_rfl) ?_
                      exact AE_done ⟨1, false, rfl, rfl, k2, Nat.le_refl _, h⟩
              · replace h := bifF h13 h
                refine AW_ifF (q := (v1 == 3)) (by kernel_rfl) h13 ?_
                refine AW_seq ?_
                refine AW_reg ?_
                refine AR_many hT 2 [3, 4, 5, 7, 8, 87] [(3, (.ptr 1 0)), (4, (.ptr 2 0)), (5, (.ptr 3 0)), (7, (.int .i64 0)), (8, (.bool false)), (87, (.bool (v1 == 4)))] [.cells [(.int .i64 v8), (.int .i64 (IntKind.wrap .i64 (v9 + 1)))], .cells [(.ptr 0 0)], .cells [(.int .i64 v1), (.str v2), (.int .i64 v3), (.str v4), (.sl (l57 v5)), (.int .i64 v6)], .cells [(.int .i64 v7)]] (by kernel_rfl) ?_
                refine AR_fin (by kernel_rfl) ?_
                refine AE_seqN ?_
                rcases Bool.eq_false_or_eq_true (v1 == 4) with h20 | h20
                · replace h := bifT h20 h
                  refine AW_ifT (q := (v1 == 4)) (by kernel_rfl) h20 ?_
                  refine AW_seq ?_
                  refine AW_reg ?_
                  refine AR_many hT 1 [3, 4, 5, 7] [(3, (.ptr 1 0)), (4, (.ptr 2 0)), (5, (.ptr 3 0)), (7, (.int .i64 2))] [.cells [(.int .i64 v8), (.int .i64 (IntKind.wrap .i64 (v9 + 1)))], .cells [(.ptr 0 0)], .cells [(.int .i64 v1), (.str v2), (.int .i64 v3), (.str v4), (.sl (l57 v5)), (.int .i64 v6)], .cells [(.int .i64 v7)]] (by kernel_rfl) ?_
                  refine AR_fin (by kernel_rfl) ?_
                  refine AE_seqN ?_
                  obtain ⟨v14, h21, h⟩ := Option.bind_eq_some_iff.mp h
                  try dsimp only at h
                  rcases Bool.eq_false_or_eq_true (decide (v14 > 0)) with h22 | h22
                  · replace h := bifT h22 h
                    rcases Bool.eq_false_or_eq_true (v3 == 0) with h23 | h23
                    · replace h := bifT h23 h
                      refine AW_reg ?_
                      refine AR_many hT 2 [3, 4, 5, 7, 90] [(3, (.ptr 1 0)), (4, (.ptr 2 0)), (5, (.ptr 3 0)), (7, (.int .i64 2)), (90, (.str v2))] [.cells [(.int .i64 v8), (.int .i64 (IntKind.wrap .i64 (v9 + 1)))], .cells [(.ptr 0 0)], .cells [(.int .i64 v1), (.str v2), (.int .i64 v3), (.str v4), (.sl (l57 v5)), (.int .i64 v6)], .cells [(.int .i64 v7)]] (by kernel_rfl) ?_
                      refine AR_op (by kernel_rfl) (OpJ_callK (g := 110) (args := [(.str v2)]) (by kernel_rfl) Go.Proofs.Try.func110 (by kernel_rfl) (by kernel_rfl) (Fn_pure (F110_ok k2 v2 v14 h21) (by simp [AV.low, AV.lows, AObj.low]) (by simp [AV.low, AV.lows, AObj.low]))) ?_
                      refine AR_many hT 1 [3, 4, 5, 7, 92] [(3, (.ptr 1 0)), (4, (.ptr 2 0)), (5, (.ptr 3 0)), (7, (.int .i64 2)), (92, (.bool (decide (v14 > 0))))] [.cells [(.int .i64 v8), (.int .i64 (IntKind.wrap .i64 (v9 + 1)))], .cells [(.ptr 0 0)], .cells [(.int .i64 v1), (.str v2), (.int .i64 v3), (.str v4), (.sl (l57 v5)), (.int .i64 v6)], .cells [(.int .i64 v7)]] (by kernel_rfl) ?_
                      refine AR_op (by kernel_rfl) (OpJ_boolK hT (q := (decide (v14 > 0))) (by kernel_rfl) h22) ?_
                      refine AR_many hT 4 [3, 4, 5, 7, 97] [(3, (.ptr 1 0)), (4, (.ptr 2 0)), (5, (.ptr 3 0)), (7, (.int .i64 2)), (97, (.bool (v3 == 0)))] [.cells [(.int .i64 v8), (.int .i64 (IntKind.wrap .i64 (v9 + 1)))], .cells [(.ptr 0 0)], .cells [(.int .i64 v1), (.str v2), (.int .i64 v3), (.str v4), (.sl (l57 v5)), (.int .i64 v6)], .cells [(.int .i64 v7)]] (by kernel_rfl) ?_
                      refine AR_op (by kernel_rfl) (OpJ_boolK hT (q := (v3 == 0)) (by kernel_rfl) h23) ?_
                      refine AR_many hT 5 [3, 4, 5, 7, 8] [(3, (.ptr 1 0)), (4, (.ptr 2 0)), (5, (.ptr 3 0)), (7, (.int .i64 2)), (8, (.bool (v4.toList == (ByteArray.mk #[]).toList)))] [.cells [(.int .i64 v8), (.int .i64 (IntKind.wrap .i64 (v9 + 1)))], .cells [(.ptr 0 0)], .cells [(.int .i64 v1), (.str v2), (.int .i64 v3), (.str v4), (.sl (l57 v5)), (.int .i64 v6)], .cells [(.int .i64 v7)]] (by kernel_rfl) ?_
                      refine AR_fin (by kernel_rfl) ?_
                      refine AE_blkN ?_
                      refine AE_keep [3, 4, 5, 7, 8] (env' := [(3, (.ptr 1 0)), (4, (.ptr 2 0)), (5, (.ptr 3 0)), (7, (.int .i64 2)), (8, (.bool (v4.toList == (ByteArray.mk #[]).toList)))]) (by kernel_rfl) ?_
                      exact AE_done ⟨2, (v4.toList == (ByteArray.mk #[]).toList), rfl, rfl, k2, Nat.le_refl _, h⟩
                    · replace h := bifF h23 h
                      refine AW_reg ?_
                      refine AR_many hT 2 [3, 4, 5, 7, 90] [(3, (.ptr 1 0)), (4, (.ptr 2 0)), (5, (.ptr 3 0)), (7, (.int .i64 2)), (90, (.str v2))] [.cells [(.int .i64 v8), (.int .i64 (IntKind.wrap .i64 (v9 + 1)))], .cells [(.ptr 0 0)], .cells [(.int .i64 v1), (.str v2), (.int .i64 v3), (.str v4), (.sl (l57 v5)), (.int .i64 v6)], .cells [(.int .i64 v7)]] (by kernel_rfl) ?_
                      refine AR_op (by kernel_rfl) (OpJ_callK (g := 110) (args := [(.str v2)]) (by kernel_rfl) Go.Proofs.Try.func110 (by kernel_rfl) (by kernel_rfl) (Fn_pure (F110_ok k2 v2 v14 h21) (by simp [AV.low, AV.lows, AObj.low]) (by simp [AV.low, AV.lows, AObj.low]))) ?_
                      refine AR_many hT 1 [3, 4, 5, 7, 92] [(3, (.ptr 1 0)), (4, (.ptr 2 0)), (5, (.ptr 3 0)), (7, (.int .i64 2)), (92, (.bool (decide (v14 > 0))))] [.cells [(.int .i64 v8), (.int .i64 (IntKind.wrap .i64 (v9 + 1)))], .cells [(.ptr 0 0)], .cells [(.int .i64 v1), (.str v2), (.int .i64 v3), (.str v4), (.sl (l57 v5)), (.int .i64 v6)], .cells [(.int .i64 v7)]] (by kernel_rfl) ?_
                      refine AR_op (by kernel_rfl) (OpJ_boolK hT (q := (decide (v14 > 0))) (by kernel_rfl) h22) ?_
                      refine AR_many hT 4 [3, 4, 5, 7, 97] [(3, (.ptr 1 0)), (4, (.ptr 2 0)), (5, (.ptr 3 0)), (7, (.int .i64 2)), (97, (.bool (v3 == 0)))] [.cells [(.int .i64 v8), (.int .i64 (IntKind.wrap .i64 (v9 + 1)))], .cells [(.ptr 0 0)], .cells [(.int .i64 v1), (.str v2), (.int .i64 v3), (.str v4), (.sl (l57 v5)), (.int .i64 v6)], .cells [(.int .i64 v7)]] (by kernel_rfl) ?_
                      refine AR_op (by kernel_rfl) (OpJ_boolK hT (q := (v3 == 0)) (by kernel_rfl) h23) ?_
                      refine AR_many hT 5 [3, 4, 5, 7, 8] [(3, (.ptr 1 0)), (4, (.ptr 2 0)), (5, (.ptr 3 0)), (7, (.int .i64 2)), (8, (.bool false))] [.cells [(.int .i64 v8), (.int .i64 (IntKind.wrap .i64 (v9 + 1)))], .cells [(.ptr 0 0)], .cells [(.int .i64 v1), (.str v2), (.int .i64 v3), (.str v4), (.sl (l57 v5)), (.int .i64 v6)], .cells [(.int .i64 v7)]] (by kernel_rfl) ?_
                      refine AR_fin (by kernel_rfl) ?_
                      refine AE_blkN ?_
                      refine AE_keep [3, 4, 5, 7, 8] (env' := [(3, (.ptr 1 0)), (4, (.ptr 2 0)), (5, (.ptr 3 0)), (7, (.int .i64 2)), (8, (.bool false))]) (by kernel_rfl) ?_
                      exact AE_done ⟨2, false, rfl, rfl, k2, Nat.le_refl _, h⟩
                  · replace h := bifF h22 h
                    refine AW_reg ?_
                    refine AR_many hT 2 [3, 4, 5, 7, 90] [(3, (.ptr 1 0)), (4, (.ptr 2 0)), (5, (.ptr 3 0)), (7, (.int .i64 2)), (90, (.str v2))] [.cells [(.int .i64 v8), (.int .i64 (IntKind.wrap .i64 (v9 + 1)))], .cells [(.ptr 0 0)], .cells [(.int .i64 v1), (.str v2), (.int .i64 v3), (.str v4), (.sl (l57 v5)), (.int .i64 v6)], .cells [(.int .i64 v7)]] (by kernel_rfl) ?_
                    refine AR_op (by kernel_rfl) (OpJ_callK (g := 110) (args := [(.str v2)]) (by kernel_rfl) Go.Proofs.Try.func110 (by kernel_rfl) (by kernel_rfl) (Fn_pure (F110_ok k2 v2 v14 h21) (by simp [AV.low, AV.lows, AObj.low]) (by simp [AV.low, AV.lows, AObj.low]))) ?_
                    refine AR_many hT 1 [3, 4, 5, 7, 92] [(3, (.ptr 1 0)), (4, (.ptr 2 0)), (5, (.ptr 3 0)), (7, (.int .i64 2)), (92, (.bool (decide (v14 > 0))))] [.cells [(.int .i64 v8), (.int .i64 (IntKind.wrap .i64 (v9 + 1)))], .cells [(.ptr 0 0)], .cells [(.int .i64 v1), (.str v2), (.int .i64 v3), (.str v4), (.sl (l57 v5)), (.int .i64 v6)], .cells [(.int .i64 v7)]] (by kernel_rfl) ?_
                    refine AR_op (by kernel_rfl) (OpJ_boolK hT (q := (decide (v14 > 0))) (by kernel_rfl) h22) ?_
                    refine AR_many hT 10 [3, 4, 5, 7, 8] [(3, (.ptr 1 0)), (4, (.ptr 2 0)), (5, (.ptr 3 0)), (7, (.int .i64 2)), (8, (.bool false))] [.cells [(.int .i64 v8), (.int .i64 (IntKind.wrap .i64 (v9 + 1)))], .cells [(.ptr 0 0)], .cells [(.int .i64 v1), (.str v2), (.int .i64 v3), (.str v4), (.sl (l57 v5)), (.int .i64 v6)], .cells [(.int .i64 v7)]] (by kernel_rfl) ?_
                    refine AR_fin (by kernel_rfl) ?_
                    refine AE_blkN ?_
                    refine AE_keep [3, 4, 5, 7, 8] (env' := [(3, (.ptr 1 0)), (4, (.ptr 2 0)), (5, (.ptr 3 0)), (7, (.int .i64 2)), (8, (.bool false))]) (by kernel_rfl) ?_
                    exact AE_done ⟨2, false, rfl, rfl, k2, Nat.le_refl _, h⟩
                · replace h := bifF h20 h
                  refine AW_ifF (q := (v1 == 4)) (by kernel_rfl) h20 ?_
                  refine AE_skip ?_
                  refine AE_blkN ?_
                  refine AE_keep [3, 4, 5, 7, 8] (env' := [(3, (.ptr 1 0)), (4, (.ptr 2 0)), (5, (.ptr 3 0)), (7, (.int .i64 0)), (8, (.bool false))]) (by kernel_rfl) ?_
                  exact AE_done ⟨0, false, rfl, rfl, k2, Nat.le_refl _, h⟩
        · rintro _ _ ⟨v11, v12, rfl, rfl, n, hn, h⟩
          obtain _ | k24 := n
          · rw [F61_j1] at h; cases h
          have h25 : k24 < (k + 1) := by omega
          rw [F61_j1] at h
          refine AW_seq ?_
          rcases Bool.eq_false_or_eq_true v12 with h26 | h26
          · replace h := bifT h26 h
            rcases Bool.eq_false_or_eq_true (((l57 v5).length : Int) == v11) with h27 | h27
            · replace h := bifT h27 h
              obtain ⟨⟨v15, v16⟩, h28, h⟩ := Option.bind_eq_some_iff.mp h
              try dsimp only at h
              refine AW_reg ?_
              refine AR_many hT 1 [3, 4, 5, 7, 103] [(3, (.ptr 1 0)), (4, (.ptr 2 0)), (5, (.ptr 3 0)), (7, (.int .i64 v11)), (103, (.bool v12))] [.cells [(.int .i64 v8), (.int .i64 (IntKind.wrap .i64 (v9 + 1)))], .cells [(.ptr 0 0)], .cells [(.int .i64 v1), (.str v2), (.int .i64 v3), (.str v4), (.sl (l57 v5)), (.int .i64 v6)], .cells [(.int .i64 v7)]] (by kernel_rfl) ?_
              refine AR_op (by kernel_rfl) (OpJ_boolK hT (q := v12) (by kernel_rfl) h26) ?_
              refine AR_many hT 6 [3, 4, 5, 110] [(3, (.ptr 1 0)), (4, (.ptr 2 0)), (5, (.ptr 3 0)), (110, (.bool (((l57 v5).length : Int) == v11)))] [.cells [(.int .i64 v8), (.int .i64 (IntKind.wrap .i64 (v9 + 1)))], .cells [(.ptr 0 0)], .cells [(.int .i64 v1), (.str v2), (.int .i64 v3), (.str v4), (.sl (l57 v5)), (.int .i64 v6)], .cells [(.int .i64 v7)]] (by kernel_rfl) ?_
              refine AR_op (by kernel_rfl) (OpJ_boolK hT (q := (((l57 v5).length : Int) == v11)) (by kernel_rfl) h27) ?_
              refine AR_many hT 3 [111, 113, 114] [(111, (.bool true)), (113, (.sl (l57 v5))), (114, (.fn 112 [] [(.ptr 1 0), (.ptr 3 0)]))] [.cells [(.int .i64 v8), (.int .i64 (IntKind.wrap .i64 (v9 + 1)))], .cells [(.ptr 0 0)], .cells [(.int .i64 v1), (.str v2), (.int .i64 v3), (.str v4), (.sl (l57 v5)), (.int .i64 v6)], .cells [(.int .i64 v7)]] (by kernel_rfl) ?_
              refine AR_op (by kernel_rfl) (OpJ_callK (g := 111) (args := [(.sl (l57 v5)), (.fn 112 [] [(.ptr 1 0), (.ptr 3 0)])]) (by kernel_rfl) Go.Proofs.Try.func111 (by kernel_rfl) (by kernel_rfl) (Fn_in (L := [.cells [(.int .i64 v8), (.int .i64 (IntKind.wrap .i64 (v9 + 1)))], .cells [(.ptr 0 0)], .cells [(.int .i64 v1), (.str v2), (.int .i64 v3), (.str v4), (.sl (l57 v5)), (.int .i64 v6)], .cells [(.int .i64 v7)]]) (args' := [(.sl (l57 v5)), (.fn 112 [] [(.ptr 1 0), (.ptr 3 0)])]) (res' := (.bool v15)) (L'' := [.cells [(.int .i64 v8), (.int .i64 v16)], .cells [(.ptr 0 0)], .cells [(.int .i64 v1), (.str v2), (.int .i64 v3), (.str v4), (.sl (l57 v5)), (.int .i64 v6)], .cells [(.int .i64 v7)]]) [1, 0, 3] (ih_F111 k24 h25 v5 v8 (IntKind.wrap .i64 (v9 + 1)) v7 v15 v16 h28) rfl (by decide) ⟨(by simp [AV.ren, AV.rens, AObj.ren, gname]), (by simp [AV.ren, AV.rens, AObj.ren, gname]), (by simp [AV.ren, AV.rens, AObj.ren, gname]), trivial⟩ (by simp [AV.low, AV.lows, AObj.low]) (by simp [AV.low, AV.lows, AObj.low]) (by kernel_rfl) (by simp [AV.ren, AV.rens, AObj.ren, gname, putBack]) (by simp [AV.ren, AV.rens, AObj.ren, gname, putBack]) (by simp [AV.ren, AV.rens, AObj.ren, gname, putBack]))) ?_
              refine AR_many hT 3 [6] [(6, (.bool (!v15)))] [.cells [(.int .i64 v8), (.int .i64 v16)], .cells [(.ptr 0 0)], .cells [(.int .i64 v1), (.str v2), (.int .i64 v3), (.str v4), (.sl (l57 v5)), (.int .i64 v6)], .cells [(.int .i64 v7)]] (by kernel_rfl) ?_
              refine AR_fin (by kernel_rfl) ?_
              refine AE_seqN ?_
              refine AE_ret ?_
              refine AE_keep [6] (env' := [(6, (.bool (!v15)))]) (by kernel_rfl) ?_
              simp only [Option.some.injEq, Prod.mk.injEq] at h
              obtain ⟨rfl, rfl⟩ := h
              exact AE_done ⟨trivial, by kernel_rfl, by kernel_rfl, by simp [AV.low, AV.lows, AObj.low], by simp [AV.low, AV.lows, AObj.low]⟩
            · replace h := bifF h27 h
              refine AW_reg ?_
              refine AR_many hT 1 [3, 4, 5, 7, 103] [(3, (.ptr 1 0)), (4, (.ptr 2 0)), (5, (.ptr 3 0)), (7, (.int .i64 v11)), (103, (.bool v12))] [.cells [(.int .i64 v8), (.int .i64 (IntKind.wrap .i64 (v9 + 1)))], .cells [(.ptr 0 0)], .cells [(.int .i64 v1), (.str v2), (.int .i64 v3), (.str v4), (.sl (l57 v5)), (.int .i64 v6)], .cells [(.int .i64 v7)]] (by kernel_rfl) ?_
              refine AR_op (by kernel_rfl) (OpJ_boolK hT (q := v12) (by kernel_rfl) h26) ?_
              refine AR_many hT 6 [3, 4, 5, 110] [(3, (.ptr 1 0)), (4, (.ptr 2 0)), (5, (.ptr 3 0)), (110, (.bool (((l57 v5).length : Int) == v11)))] [.cells [(.int .i64 v8), (.int .i64 (IntKind.wrap .i64 (v9 + 1)))], .cells [(.ptr 0 0)], .cells [(.int .i64 v1), (.str v2), (.int .i64 v3), (.str v4), (.sl (l57 v5)), (.int .i64 v6)], .cells [(.int .i64 v7)]] (by kernel_rfl) ?_
              refine AR_op (by kernel_rfl) (OpJ_boolK hT (q := (((l57 v5).length : Int) == v11)) (by kernel_rfl) h27) ?_
              refine AR_many hT 7 [6] [(6, (.bool false))] [.cells [(.int .i64 v8), (.int .i64 (IntKind.wrap .i64 (v9 + 1)))], .cells [(.ptr 0 0)], .cells [(.int .i64 v1), (.str v2), (.int .i64 v3), (.str v4), (.sl (l57 v5)), (.int .i64 v6)], .cells [(.int .i64 v7)]] (by kernel_rfl) ?_
              refine AR_fin (by kernel_rfl) ?_
              refine AE_seqN ?_
              refine AE_ret ?_
              refine AE_keep [6] (env' := [(6, (.bool false))]) (by kernel_rfl) ?_
              simp only [Option.some.injEq, Prod.mk.injEq] at h
              obtain ⟨rfl, rfl⟩ := h
              exact AE_done ⟨trivial, by kernel_rfl, by kernel_rfl, by simp [AV.low, AV.lows, AObj.low], by simp [AV.low, AV.lows, AObj.low]⟩
          · replace h := bifF h26 h
            refine AW_reg ?_
            refine AR_many hT 1 [3, 4, 5, 7, 103] [(3, (.ptr 1 0)), (4, (.ptr 2 0)), (5, (.ptr 3 0)), (7, (.int .i64 v11)), (103, (.bool v12))] [.cells [(.int .i64 v8), (.int .i64 (IntKind.wrap .i64 (v9 + 1)))], .cells [(.ptr 0 0)], .cells [(.int .i64 v1), (.str v2), (.int .i64 v3), (.str v4), (.sl (l57 v5)), (.int .i64 v6)], .cells [(.int .i64 v7)]] (by kernel_rfl) ?_
            refine AR_op (by kernel_rfl) (OpJ_boolK hT (q := v12) (by kernel_rfl) h26) ?_
            refine AR_many hT 14 [6] [(6, (.bool false))] [.cells [(.int .i64 v8), (.int .i64 (IntKind.wrap .i64 (v9 + 1)))], .cells [(.ptr 0 0)], .cells [(.int .i64 v1), (.str v2), (.int .i64 v3), (.str v4), (.sl (l57 v5)), (.int .i64 v6)], .cells [(.int .i64 v7)]] (by kernel_rfl) ?_
            refine AR_fin (by kernel_rfl) ?_
            refine AE_seqN ?_
            refine AE_ret ?_
            refine AE_keep [6] (env' := [(6, (.bool false))]) (by kernel_rfl) ?_
            simp only [Option.some.injEq, Prod.mk.injEq] at h
            obtain ⟨rfl, rfl⟩ := h
            exact AE_done ⟨trivial, by kernel_rfl, by kernel_rfl, by simp [AV.low, AV.lows, AObj.low], by simp [AV.low, AV.lows, AObj.low]⟩

theorem F112_all (K0 : Nat) : (∀ (v1 : Int) (v2 : ByteArray) (v3 : Int) (v4 : ByteArray) (v5 : (List T57)) (v6 : Int) (v7 : Int) (v8 : Int) (v9 : Int) (r1 : Bool) (r2 : Int), F112 K0 v1 v2 v3 v4 v5 v6 v7 v8 v9 = some (r1, r2) → Fn prog 112 [(.agg [(.int .i64 v1), (.str v2), (.int .i64 v3), (.str v4), (.sl (l57 v5)), (.int .i64 v6)]), (.ptr 0 0), (.ptr 2 0)] [.cells [(.ptr 1 0)], .cells [(.int .i64 v7), (.int .i64 v8)], .cells [(.int .i64 v9)]] (.bool r1) [.cells [(.ptr 1 0)], .cells [(.int .i64 v7), (.int .i64 r2)], .cells [(.int .i64 v9)]]) ∧ (∀ (v1 : (List T57)) (v2 : Int) (v3 : Int) (v4 : Int) (r1 : Int) (r2 : Int), F134 K0 v1 v2 v3 v4 = some (r1, r2) → Fn prog 134 [(.sl (l57 v1)), (.fn 112 [] [(.ptr 0 0), (.ptr 2 0)])] [.cells [(.ptr 1 0)], .cells [(.int .i64 v2), (.int .i64 v3)], .cells [(.int .i64 v4)]] (.int .i64 r1) [.cells [(.ptr 1 0)], .cells [(.int .i64 v2), (.int .i64 r2)], .cells [(.int .i64 v4)]]) ∧ (∀ (v1 : (List T57)) (v2 : Int) (v3 : Int) (v4 : Int) (r1 : Bool) (r2 : Int), F111 K0 v1 v2 v3 v4 = some (r1, r2) → Fn prog 111 [(.sl (l57 v1)), (.fn 112 [] [(.ptr 0 0), (.ptr 2 0)])] [.cells [(.ptr 1 0)], .cells [(.int .i64 v2), (.int .i64 v3)], .cells [(.int .i64 v4)]] (.bool r1) [.cells [(.ptr 1 0)], .cells [(.int .i64 v2), (.int .i64 r2)], .cells [(.int .i64 v4)]]) ∧ (∀ (v1 : Int) (v2 : ByteArray) (v3 : Int) (v4 : ByteArray) (v5 : (List T57)) (v6 : Int) (v7 : Int) (v8 : Int) (v9 : Int) (r1 : Bool) (r2 : Int), F61 K0 v1 v2 v3 v4 v5 v6 v7 v8 v9 = some (r1, r2) → Fn prog 61 [(.ptr 0 0), (.agg [(.int .i64 v1), (.str v2), (.int .i64 v3), (.str v4), (.sl (l57 v5)), (.int .i64 v6)]), (.int .i64 v7)] [.cells [(.int .i64 v8), (.int .i64 v9)]] (.bool r1) [.cells [(.int .i64 v8), (.int .i64 r2)]]) := by
  induction K0 using Nat.strongRecOn with
  | ind K0 ih => exact ⟨F112_step K0 (fun k hk => (ih k hk).1) (fun k hk => (ih k hk).2.1) (fun k hk => (ih k hk).2.2.1) (fun k hk => (ih k hk).2.2.2), F134_step K0 (fun k hk => (ih k hk).1) (fun k hk => (ih k hk).2.1) (fun k hk => (ih k hk).2.2.1) (fun k hk => (ih k hk).2.2.2), F111_step K0 (fun k hk => (ih k hk).1) (fun k hk => (ih k hk).2.1) (fun k hk => (ih k hk).2.2.1) (fun k hk => (ih k hk).2.2.2), F61_step K0 (fun k hk => (ih k hk).1) (fun k hk => (ih k hk).2.1) (fun k hk => (ih k hk).2.2.1) (fun k hk => (ih k hk).2.2.2)⟩

theorem F112_ok (K0 : Nat) : ∀ (v1 : Int) (v2 : ByteArray) (v3 : Int) (v4 : ByteArray) (v5 : (List T57)) (v6 : Int) (v7 : Int) (v8 : Int) (v9 : Int) (r1 : Bool) (r2 : Int), F112 K0 v1 v2 v3 v4 v5 v6 v7 v8 v9 = some (r1, r2) → Fn prog 112 [(.agg [(.int .i64 v1), (.str v2), (.int .i64 v3), (.str v4), (.sl (l57 v5)), (.int .i64 v6)]), (.ptr 0 0), (.ptr 2 0)] [.cells [(.ptr 1 0)], .cells [(.int .i64 v7), (.int .i64 v8)], .cells [(.int .i64 v9)]] (.bool r1) [.cells [(.ptr 1 0)], .cells [(.int .i64 v7), (.int .i64 r2)], .cells [(.int .i64 v9)]] := (F112_all K0).1

theorem F134_ok (K0 : Nat) : ∀ (v1 : (List T57)) (v2 : Int) (v3 : Int) (v4 : Int) (r1 : Int) (r2 : Int), F134 K0 v1 v2 v3 v4 = some (r1, r2) → Fn prog 134 [(.sl (l57 v1)), (.fn 112 [] [(.ptr 0 0), (.ptr 2 0)])] [.cells [(.ptr 1 0)], .cells [(.int .i64 v2), (.int .i64 v3)], .cells [(.int .i64 v4)]] (.int .i64 r1) [.cells [(.ptr 1 0)], .cells [(.int .i64 v2), (.int .i64 r2)], .cells [(.int .i64 v4)]] := (F112_all K0).2.1

theorem F111_ok (K0 : Nat) : ∀ (v1 : (List T57)) (v2 : Int) (v3 : Int) (v4 : Int) (r1 : Bool) (r2 : Int), F111 K0 v1 v2 v3 v4 = some (r1, r2) → Fn prog 111 [(.sl (l57 v1)), (.fn 112 [] [(.ptr 0 0), (.ptr 2 0)])] [.cells [(.ptr 1 0)], .cells [(.int .i64 v2), (.int .i64 v3)], .cells [(.int .i64 v4)]] (.bool r1) [.cells [(.ptr 1 0)], .cells [(.int .i64 v2), (.int .i64 r2)], .cells [(.int .i64 v4)]] := (F112_all K0).2.2.1

theorem F61_ok (K0 : Nat) : ∀ (v1 : Int) (v2 : ByteArray) (v3 : Int) (v4 : ByteArray) (v5 : (List T57)) (v6 : Int) (v7 : Int) (v8 : Int) (v9 : Int) (r1 : Bool) (r2 : Int), F61 K0 v1 v2 v3 v4 v5 v6 v7 v8 v9 = some (r1, r2) → Fn prog 61 [(.ptr 0 0), (.agg [(.int .i64 v1), (.str v2), (.int .i64 v3), (.str v4), (.sl (l57 v5)), (.int .i64 v6)]), (.int .i64 v7)] [.cells [(.int .i64 v8), (.int .i64 v9)]] (.bool r1) [.cells [(.int .i64 v8), (.int .i64 r2)]] := (F112_all K0).2.2.2

mutual
def F76 : Nat → (List T69) → Int → Int → Int → Option (Bool × Int × Int)
  | 0, _, _, _, _ => none
  | k + 1, v1, v2, v3, v4 =>
    F76_l0 k v2 v1 0 v3 v4
def F76_j1 : Nat → Int → (List T69) → Int → Bool → Int → Int → Int → ByteArray → ByteArray → (List T57) → (List T69) → (List T69) → Option (Bool × Int × Int)
  | 0, _, _, _, _, _, _, _, _, _, _, _, _ => none
  | k6 + 1, v2, v1, v15, v16, v17, v18, v19, v20, v21, v22, v23, v24 =>
    (bif v16 then
      some (false, v17, v18)
    else
      ((F119 k6 v19).bind fun ⟨v26, v27, v28, v29, v30, v31⟩ =>
        (bif (!v31) then
          F76_j2 k6 v2 v1 v15 true v17 v18 v22 v23 v24
        else
          ((F120 k6 v20 v26).bind fun v48 =>
            (bif (!v48) then
              F76_j2 k6 v2 v1 v15 true v17 v18 v22 v23 v24
            else
              ((F120 k6 v21 v27).bind fun v49 =>
                (bif (!v49) then
                  F76_j2 k6 v2 v1 v15 true v17 v18 v22 v23 v24
                else
                  (bif (((l57 v22).length : Int) != v28) then
                    F76_j2 k6 v2 v1 v15 true v17 v18 v22 v23 v24
                  else
                    (bif (!v29) then
                      (bif (decide (((l69 v23).length : Int) > 0)) then
                        F76_j2 k6 v2 v1 v15 true v17 v18 v22 v23 v24
                      else
                        (bif (!v30) then
                          F76_j2 k6 v2 v1 v15 (decide (((l69 v24).length : Int) > 0)) v17 v18 v22 v23 v24
                        else
                          F76_j2 k6 v2 v1 v15 false v17 v18 v22 v23 v24))
                    else
                      (bif (!v30) then
                        F76_j2 k6 v2 v1 v15 (decide (((l69 v24).length : Int) > 0)) v17 v18 v22 v23 v24
                      else
                        F76_j2 k6 v2 v1 v15 false v17 v18 v22 v23 v24))))))))))
def F76_j2 : Nat → Int → (List T69) → Int → Bool → Int → Int → (List T57) → (List T69) → (List T69) → Option (Bool × Int × Int)
  | 0, _, _, _, _, _, _, _, _, _ => none
  | k20 + 1, v2, v1, v32, v33, v34, v35, v39, v40, v41 =>
    (bif v33 then
      some (false, v34, v35)
    else
      F76_l3 k20 v2 v1 v32 v39 v34 v40 v41 0 v35)
def F76_j4 : Nat → Int → (List T69) → Int → Bool → Int → Int → Option (Bool × Int × Int)
  | 0, _, _, _, _, _, _ => none
  | k32 + 1, v2, v1, v60, v61, v62, v63 =>
    (bif v61 then
      some (false, v62, v63)
    else
      F76_l0 k32 v2 v1 (IntKind.wrap .i64 (v60 + 1)) v62 v63)
def F76_l0 : Nat → Int → (List T69) → Int → Int → Int → Option (Bool × Int × Int)
  | 0, _, _, _, _, _ => none
  | k1 + 1, v2, v1, v5, v6, v7 =>
    (bif (decide (v5 < ((l69 v1).length : Int))) then
      ((idx v1 v5).bind fun ⟨v8, v9, v10, v11, v12, v13, v14⟩ =>
        (bif (decide ((IntKind.wrap .i64 (v6 + 1)) > 200)) then
          F76_j1 k1 v2 v1 v5 true (IntKind.wrap .i64 (v6 + 1)) v7 v8 v9 v10 v11 v12 v13
        else
          F76_j1 k1 v2 v1 v5 (decide (v2 < 1)) (IntKind.wrap .i64 (v6 + 1)) v7 v8 v9 v10 v11 v12 v13))
    else
      some (true, v6, v7))
def F76_l3 : Nat → Int → (List T69) → Int → (List T57) → Int → (List T69) → (List T69) → Int → Int → Option (Bool × Int × Int)
  | 0, _, _, _, _, _, _, _, _, _ => none
  | k23 + 1, v2, v1, v32, v39, v34, v40, v41, v50, v51 =>
    (bif (decide (v50 < ((l57 v39).length : Int))) then
      ((idx v39 v50).bind fun ⟨v52, v53, v54, v55, v56, v57⟩ =>
        ((F61 k23 v52 v53 v54 v55 v56 v57 12 v34 v51).bind fun ⟨v58, v59⟩ =>
          (bif (!v58) then
            some (false, v34, v59)
          else
            F76_l3 k23 v2 v1 v32 v39 v34 v40 v41 (IntKind.wrap .i64 (v50 + 1)) v59)))
    else
      ((F76 k23 v40 (IntKind.wrap .i64 (v2 - 1)) v34 v51).bind fun ⟨v76, v77, v78⟩ =>
        (bif (!v76) then
          F76_j4 k23 v2 v1 v32 true v77 v78
        else
          ((F76 k23 v41 (IntKind.wrap .i64 (v2 - 1)) v77 v78).bind fun ⟨v79, v80, v81⟩ =>
            F76_j4 k23 v2 v1 v32 (!v79) v80 v81))))
end

theorem F76_step (K0 : Nat) (ih_F76 : ∀ k, k < K0 → ∀ (v1 : (List T69)) (v2 : Int) (v3 : Int) (v4 : Int) (r1 : Bool) (r2 : Int) (r3 : Int), F76 k v1 v2 v3 v4 = some (r1, r2, r3) → Fn prog 76 [(.ptr 0 0), (.sl (l69 v1)), (.int .i64 v2)] [.cells [(.int .i64 v3), (.int .i64 v4)]] (.bool r1) [.cells [(.int .i64 r2), (.int .i64 r3)]]) : ∀ (v1 : (List T69)) (v2 : Int) (v3 : Int) (v4 : Int) (r1 : Bool) (r2 : Int) (r3 : Int), F76 K0 v1 v2 v3 v4 = some (r1, r2, r3) → Fn prog 76 [(.ptr 0 0), (.sl (l69 v1)), (.int .i64 v2)] [.cells [(.int .i64 v3), (.int .i64 v4)]] (.bool r1) [.cells [(.int .i64 r2), (.int .i64 r3)]] := by
  intro v1 v2 v3 v4 r1 r2 r3 h
  cases K0 with
  | zero => rw [F76] at h; cases h
  | succ k =>
    have hk : k < k + 1 := Nat.lt_succ_self k
    rw [F76] at h
    refine Fn_bodyK hT Go.Proofs.Try.func76 (c := Go.Proofs.Try.f76.body.getD .skip) (by kernel_rfl) (by kernel_rfl) (by kernel_rfl) ?_
    refine AW_seq ?_
    refine AW_reg ?_
    refine AR_many hT 1 [0, 1, 2] [(0, (.ptr 0 0)), (1, (.sl (l69 v1))), (2, (.int .i64 v2))] [.cells [(.int .i64 v3), (.int .i64 v4)]] (by kernel_rfl) ?_
    refine AR_fin (by kernel_rfl) ?_
    refine AE_seqN ?_
    refine AW_seq ?_
    refine AW_seq ?_
    refine AW_reg ?_
    refine AR_many hT 3 [0, 2, 13, 14, 15] [(0, (.ptr 0 0)), (2, (.int .i64 v2)), (13, (.sl (l69 v1))), (14, (.int .i64 ((l69 v1).length : Int))), (15, (.int .i64 0))] [.cells [(.int .i64 v3), (.int .i64 v4)]] (by kernel_rfl) ?_
    refine AR_fin (by kernel_rfl) ?_
    refine AE_seqN ?_
    refine AW_block ?_
    refine AW_keep [0, 2, 13, 14, 15] (env' := [(0, (.ptr 0 0)), (2, (.int .i64 v2)), (13, (.sl (l69 v1))), (14, (.int .i64 ((l69 v1).length : Int))), (15, (.int .i64 0))]) (by kernel_rfl) ?_
    refine AW_loop (fun n env L => n ≤ k ∧ ∃ (v5 : Int) (v6 : Int) (v7 : Int), env = [(0, (.ptr 0 0)), (2, (.int .i64 v2)), (13, (.sl (l69 v1))), (14, (.int .i64 ((l69 v1).length : Int))), (15, (.int .i64 v5))] ∧ L = [.cells [(.int .i64 v6), (.int .i64 v7)]] ∧ F76_l0 n v2 v1 v5 v6 v7 = some (r1, r2, r3)) k ⟨Nat.le_refl _, 0, v3, v4, rfl, rfl, h⟩ ?_
    rintro n _ _ ⟨hn, v5, v6, v7, rfl, rfl, h⟩
    cases n with
    | zero => rw [F76_l0] at h; cases h
    | succ k1 =>
      have h2 : k1 < (k + 1) := by omega
      rw [F76_l0] at h
      refine AW_seq ?_
      refine AW_reg ?_
      refine AR_many hT 1 [0, 2, 13, 14, 15, 16] [(0, (.ptr 0 0)), (2, (.int .i64 v2)), (13, (.sl (l69 v1))), (14, (.int .i64 ((l69 v1).length : Int))), (15, (.int .i64 v5)), (16, (.bool (decide (v5 < ((l69 v1).length : Int)))))] [.cells [(.int .i64 v6), (.int .i64 v7)]] (by kernel_rfl) ?_
      refine AR_fin (by kernel_rfl) ?_
      refine AE_seqN ?_
      refine AW_seq ?_
      rcases Bool.eq_false_or_eq_true (decide (v5 < ((l69 v1).length : Int))) with h3 | h3
      · replace h := bifT h3 h
        refine AW_ifT (q := (decide (v5 < ((l69 v1).length : Int)))) (by kernel_rfl) h3 ?_
        refine AE_skip ?_
        refine AE_seqN ?_
        refine AW_seq ?_
        refine AW_block ?_
        refine AW_seq ?_
        obtain ⟨⟨v8, v9, v10, v11, v12, v13, v14⟩, h4, h⟩ := Option.bind_eq_some_iff.mp h
        try dsimp only at h
        refine AW_reg ?_
        refine AR_op (by kernel_rfl) (OpJ_indexK hT (xs := l69 v1) (j := v5) (n := 7) (by kernel_rfl) (i69 h4) (by kernel_rfl)) ?_
        refine AR_many hT 3 [0, 2, 8, 13, 14, 15] [(0, (.ptr 0 0)), (2, (.int .i64 v2)), (8, (.ptr 1 0)), (13, (.sl (l69 v1))), (14, (.int .i64 ((l69 v1).length : Int))), (15, (.int .i64 v5))] [.cells [(.int .i64 v6), (.int .i64 v7)], .cells [(.int .i64 v8), (.str v9), (.str v10), (.sl (l57 v11)), (.sl (l69 v12)), (.sl (l69 v13)), (.int .i64 v14)]] (by kernel_rfl) ?_
        refine AR_fin (by kernel_rfl) ?_
        refine AE_seqN ?_
        refine AW_seq ?_
        refine AW_seq ?_
        refine AW_reg ?_
        refine AR_many hT 8 [0, 2, 8, 13, 14, 15] [(0, (.ptr 0 0)), (2, (.int .i64 v2)), (8, (.ptr 1 0)), (13, (.sl (l69 v1))), (14, (.int .i64 ((l69 v1).length : Int))), (15, (.int .i64 v5))] [.cells [(.int .i64 (IntKind.wrap .i64 (v6 + 1))), (.int .i64 v7)], .cells [(.int .i64 v8), (.str v9), (.str v10), (.sl (l57 v11)), (.sl (l69 v12)), (.sl (l69 v13)), (.int .i64 v14)]] (by kernel_rfl) ?_
        refine AR_fin (by kernel_rfl) ?_
        refine AE_seqN ?_
        refine AW_join (fun env L => ∃ (v15 : Int) (v16 : Bool) (v17 : Int) (v18 : Int) (v19 : Int) (v20 : ByteArray) (v21 : ByteArray) (v22 : (List T57)) (v23 : (List T69)) (v24 : (List T69)) (v25 : Int), env = [(0, (.ptr 0 0)), (2, (.int .i64 v2)), (8, (.ptr 1 0)), (13, (.sl (l69 v1))), (14, (.int .i64 ((l69 v1).length : Int))), (15, (.int .i64 v15)), (34, (.bool v16))] ∧ L = [.cells [(.int .i64 v17), (.int .i64 v18)], .cells [(.int .i64 v19), (.str v20), (.str v21), (.sl (l57 v22)), (.sl (l69 v23)), (.sl (l69 v24)), (.int .i64 v25)]] ∧ ∃ n, n ≤ k1 ∧ F76_j1 n v2 v1 v15 v16 v17 v18 v19 v20 v21 v22 v23 v24 = some (r1, r2, r3)) ?_ ?_
        · rcases Bool.eq_false_or_eq_true (decide ((IntKind.wrap .i64 (v6 + 1)) > 200)) with h5 | h5
          · replace h := bifT h5 h
            refine AW_reg ?_
            refine AR_many hT 5 [0, 2, 8, 13, 14, 15, 30] [(0, (.ptr 0 0)), (2, (.int .i64 v2)), (8, (.ptr 1 0)), (13, (.sl (l69 v1))), (14, (.int .i64 ((l69 v1).length : Int))), (15, (.int .i64 v5)), (30, (.bool (decide ((IntKind.wrap .i64 (v6 + 1)) > 200))))] [.cells [(.int .i64 (IntKind.wrap .i64 (v6 + 1))), (.int .i64 v7)], .cells [(.int .i64 v8), (.str v9), (.str v10), (.sl (l57 v11)), (.sl (l69 v12)), (.sl (l69 v13)), (.int .i64 v14)]] (by kernel_rfl) ?_
            refine AR_op (by kernel_rfl) (OpJ_boolK hT (q := (decide ((IntKind.wrap .i64 (v6 + 1)) > 200))) (by kernel_rfl) h5) ?_
            refine AR_many hT 3 [0, 2, 8, 13, 14, 15, 34] [(0, (.ptr 0 0)), (2, (.int .i64 v2)), (8, (.ptr 1 0)), (13, (.sl (l69 v1))), (14, (.int .i64 ((l69 v1).length : Int))), (15, (.int .i64 v5)), (34, (.bool true))] [.cells [(.int .i64 (IntKind.wrap .i64 (v6 + 1))), (.int .i64 v7)], .cells [(.int .i64 v8), (.str v9), (.str v10), (.sl (l57 v11)), (.sl (l69 v12)), (.sl (l69 v13)), (.int .i64 v14)]] (by kernel_rfl) ?_
            refine AR_fin (by kernel_rfl) ?_
            refine AE_keep [0, 2, 8, 13, 14, 15, 34] (env' := [(0, (.ptr 0 0)), (2, (.int .i64 v2)), (8, (.ptr 1 0)), (13, (.sl (l69 v1))), (14, (.int .i64 ((l69 v1).length : Int))), (15, (.int .i64 v5)), (34, (.bool true))]) (by kernel_rfl) ?_
            exact AE_done ⟨v5, true, (IntKind.wrap .i64 (v6 + 1)), v7, v8, v9, v10, v11, v12, v13, v14, rfl, rfl, k1, Nat.le_refl _, h⟩
          · replace h := bifF h5 h
            refine AW_reg ?_
            refine AR_many hT 5 [0, 2, 8, 13, 14, 15, 30] [(0, (.ptr 0 0)), (2, (.int .i64 v2)), (8, (.ptr 1 0)), (13, (.sl (l69 v1))), (14, (.int .i64 ((l69 v1).length : Int))), (15, (.int .i64 v5)), (30, (.bool (decide ((IntKind.wrap .i64 (v6 + 1)) > 200))))] [.cells [(.int .i64 (IntKind.wrap .i64 (v6 + 1))), (.int .i64 v7)], .cells [(.int .i64 v8), (.str v9), (.str v10), (.sl (l57 v11)), (.sl (l69 v12)), (.sl (l69 v13)), (.int .i64 v14)]] (by kernel_rfl) ?_
            refine AR_op (by kernel_rfl) (OpJ_boolK hT (q := (decide ((IntKind.wrap .i64 (v6 + 1)) > 200))) (by kernel_rfl) h5) ?_
            refine AR_many hT 3 [0, 2, 8, 13, 14, 15, 34] [(0, (.ptr 0 0)), (2, (.int .i64 v2)), (8, (.ptr 1 0)), (13, (.sl (l69 v1))), (14, (.int .i64 ((l69 v1).length : Int))), (15, (.int .i64 v5)), (34, (.bool (decide (v2 < 1))))] [.cells [(.int .i64 (IntKind.wrap .i64 (v6 + 1))), (.int .i64 v7)], .cells [(.int .i64 v8), (.str v9), (.str v10), (.sl (l57 v11)), (.sl (l69 v12)), (.sl (l69 v13)), (.int .i64 v14)]] (by kernel_rfl) ?_
            refine AR_fin (by kernel_rfl) ?_
            refine AE_keep [0, 2, 8, 13, 14, 15, 34] (env' := [(0, (.ptr 0 0)), (2, (.int .i64 v2)), (8, (.ptr 1 0)), (13, (.sl (l69 v1))), (14, (.int .i64 ((l69 v1).length : Int))), (15, (.int .i64 v5)), (34, (.bool (decide (v2 < 1))))]) (by kernel_rfl) ?_
            exact AE_done ⟨v5, (decide (v2 < 1)), (IntKind.wrap .i64 (v6 + 1)), v7, v8, v9, v10, v11, v12, v13, v14, rfl, rfl, k1, Nat.le_refl _, h⟩
        · rintro _ _ ⟨v15, v16, v17, v18, v19, v20, v21, v22, v23, v24, v25, rfl, rfl, n, hn, h⟩
          obtain _ | k6 := n
          · rw [F76_j1] at h; cases h
          have h7 : k6 < (k + 1) := by omega
          rw [F76_j1] at h
          rcases Bool.eq_false_or_eq_true v16 with h8 | h8
          · replace h := bifT h8 h
            refine AW_ifT (q := v16) (by kernel_rfl) h8 ?_
            refine AW_seq ?_
            refine AW_reg ?_
            refine AR_many hT 1 [6] [(6, (.bool false))] [.cells [(.int .i64 v17), (.int .i64 v18)], .cells [(.int .i64 v19), (.str v20), (.str v21), (.sl (l57 v22)), (.sl (l69 v23)), (.sl (l69 v24)), (.int .i64 v25)]] (by kernel_rfl) ?_
            refine AR_fin (by kernel_rfl) ?_
            refine AE_seqN ?_
            refine AE_ret ?_
            refine AE_seqR ?_
            refine AE_blkR ?_
            refine AE_seqR ?_
            refine AE_seqR ?_
            refine AE_blkR ?_
            refine AE_seqR ?_
            refine AE_keep [6] (env' := [(6, (.bool false))]) (by kernel_rfl) ?_
            simp only [Option.some.injEq, Prod.mk.injEq] at h
            obtain ⟨rfl, rfl, rfl⟩ := h
            exact AE_done ⟨trivial, by kernel_rfl, by kernel_rfl, by simp [AV.low, AV.lows, AObj.low], by simp [AV.low, AV.lows, AObj.low]⟩
          · replace h := bifF h8 h
            refine AW_ifF (q := v16) (by kernel_rfl) h8 ?_
            refine AE_skip ?_
            refine AE_seqN ?_
            refine AW_seq ?_
            obtain ⟨⟨v26, v27, v28, v29, v30, v31⟩, h9, h⟩ := Option.bind_eq_some_iff.mp h
            try dsimp only at h
            refine AW_reg ?_
            refine AR_many hT 2 [0, 2, 8, 13, 14, 15, 37] [(0, (.ptr 0 0)), (2, (.int .i64 v2)), (8, (.ptr 1 0)), (13, (.sl (l69 v1))), (14, (.int .i64 ((l69 v1).length : Int))), (15, (.int .i64 v15)), (37, (.int .i64 v19))] [.cells [(.int .i64 v17), (.int .i64 v18)], .cells [(.int .i64 v19), (.str v20), (.str v21), (.sl (l57 v22)), (.sl (l69 v23)), (.sl (l69 v24)), (.int .i64 v25)]] (by kernel_rfl) ?_
            refine AR_op (by kernel_rfl) (OpJ_callK (g := 119) (args := [(.int .i64 v19)]) (by kernel_rfl) Go.Proofs.Try.func119 (by kernel_rfl) (by kernel_rfl) (Fn_pure (F119_ok k6 v19 v26 v27 v28 v29 v30 v31 h9) (by simp [AV.low, AV.lows, AObj.low]) (by simp [AV.low, AV.lows, AObj.low]))) ?_
            refine AR_many hT 6 [0, 2, 8, 9, 10, 13, 14, 15] [(0, (.ptr 0 0)), (2, (.int .i64 v2)), (8, (.ptr 1 0)), (9, (.ptr 2 0)), (10, (.bool v31)), (13, (.sl (l69 v1))), (14, (.int .i64 ((l69 v1).length : Int))), (15, (.int .i64 v15))] [.cells [(.int .i64 v17), (.int .i64 v18)], .cells [(.int .i64 v19), (.str v20), (.str v21), (.sl (l57 v22)), (.sl (l69 v23)), (.sl (l69 v24)), (.int .i64 v25)], .cells [(.bool v26), (.bool v27), (.int .i64 v28), (.bool v29), (.bool v30)]] (by kernel_rfl) ?_
            refine AR_fin (by kernel_rfl) ?_
            refine AE_seqN ?_
            refine AW_seq ?_
            refine AW_join (fun env L => ∃ (v32 : Int) (v33 : Bool) (v34 : Int) (v35 : Int) (v36 : Int) (v37 : ByteArray) (v38 : ByteArray) (v39 : (List T57)) (v40 : (List T69)) (v41 : (List T69)) (v42 : Int) (v43 : Bool) (v44 : Bool) (v45 : Int) (v46 : Bool) (v47 : Bool), env = [(0, (.ptr 0 0)), (2, (.int .i64 v2)), (8, (.ptr 1 0)), (13, (.sl (l69 v1))), (14, (.int .i64 ((l69 v1).length : Int))), (15, (.int .i64 v32)), (88, (.bool v33))] ∧ L = [.cells [(.int .i64 v34), (.int .i64 v35)], .cells [(.int .i64 v36), (.str v37), (.str v38), (.sl (l57 v39)), (.sl (l69 v40)), (.sl (l69 v41)), (.int .i64 v42)], .cells [(.bool v43), (.bool v44), (.int .i64 v45), (.bool v46), (.bool v47)]] ∧ ∃ n, n ≤ k6 ∧ F76_j2 n v2 v1 v32 v33 v34 v35 v39 v40 v41 = some (r1, r2, r3)) ?_ ?_
            · rcases Bool.eq_false_or_eq_true (!v31) with h10 | h10
              · replace h := bifT h10 h
                refine AW_reg ?_
                refine AR_many hT 2 [0, 2, 8, 9, 13, 14, 15, 42] [(0, (.ptr 0 0)), (2, (.int .i64 v2)), (8, (.ptr 1 0)), (9, (.ptr 2 0)), (13, (.sl (l69 v1))), (14, (.int .i64 ((l69 v1).length : Int))), (15, (.int .i64 v15)), (42, (.bool (!v31)))] [.cells [(.int .i64 v17), (.int .i64 v18)], .cells [(.int .i64 v19), (.str v20), (.str v21), (.sl (l57 v22)), (.sl (l69 v23)), (.sl (l69 v24)), (.int .i64 v25)], .cells [(.bool v26), (.bool v27), (.int .i64 v28), (.bool v29), (.bool v30)]] (by kernel_rfl) ?_
                refine AR_op (by kernel_rfl) (OpJ_boolK hT (q := (!v31)) (by kernel_rfl) h10) ?_
                refine AR_many hT 45 [0, 2, 8, 13, 14, 15, 88] [(0, (.ptr 0 0)), (2, (.int .i64 v2)), (8, (.ptr 1 0)), (13, (.sl (l69 v1))), (14, (.int .i64 ((l69 v1).length : Int))), (15, (.int .i64 v15)), (88, (.bool true))] [.cells [(.int .i64 v17), (.int .i64 v18)], .cells [(.int .i64 v19), (.str v20), (.str v21), (.sl (l57 v22)), (.sl (l69 v23)), (.sl (l69 v24)), (.int .i64 v25)], .cells [(.bool v26), (.bool v27), (.int .i64 v28), (.bool v29), (.bool v30)]] (by kernel_rfl) ?_
                refine AR_fin (by kernel_rfl) ?_
                refine AE_keep [0, 2, 8, 13, 14, 15, 88] (env' := [(0, (.ptr 0 0)), (2, (.int .i64 v2)), (8, (.ptr 1 0)), (13, (.sl (l69 v1))), (14, (.int .i64 ((l69 v1).length : Int))), (15, (.int .i64 v15)), (88, (.bool true))]) (by kernel_rfl) ?_
                exact AE_done ⟨v15, true, v17, v18, v19, v20, v21, v22, v23, v24, v25, v26, v27, v28, v29, v30, rfl, rfl, k6, Nat.le_refl _, h⟩
              · replace h := bifF h10 h
                obtain ⟨v48, h11, h⟩ := Option.bind_eq_some_iff.mp h
                try dsimp only at h
                rcases Bool.eq_false_or_eq_true (!v48) with h12 | h12
                · replace h := bifT h12 h
                  refine AW_reg ?_
                  refine AR_many hT 2 [0, 2, 8, 9, 13, 14, 15, 42] [(0, (.ptr 0 0)), (2, (.int .i64 v2)), (8, (.ptr 1 0)), (9, (.ptr 2 0)), (13, (.sl (l69 v1))), (14, (.int .i64 ((l69 v1).length : Int))), (15, (.int .i64 v15)), (42, (.bool (!v31)))] [.cells [(.int .i64 v17), (.int .i64 v18)], .cells [(.int .i64 v19), (.str v20), (.str v21), (.sl (l57 v22)), (.sl (l69 v23)), (.sl (l69 v24)), (.int .i64 v25)], .cells [(.bool v26), (.bool v27), (.int .i64 v28), (.bool v29), (.bool v30)]] (by kernel_rfl) ?_
                  refine AR_op (by kernel_rfl) (OpJ_boolK hT (q := (!v31)) (by kernel_rfl) h10) ?_
                  refine AR_many hT 4 [0, 2, 8, 9, 13, 14, 15, 43, 45, 47] [(0, (.ptr 0 0)), (2, (.int .i64 v2)), (8, (.ptr 1 0)), (9, (.ptr 2 0)), (13, (.sl (l69 v1))), (14, (.int .i64 ((l69 v1).length : Int))), (15, (.int .i64 v15)), (43, (.bool false)), (45, (.str v20)), (47, (.bool v26))] [.cells [(.int .i64 v17), (.int .i64 v18)], .cells [(.int .i64 v19), (.str v20), (.str v21), (.sl (l57 v22)), (.sl (l69 v23)), (.sl (l69 v24)), (.int .i64 v25)], .cells [(.bool v26), (.bool v27), (.int .i64 v28), (.bool v29), (.bool v30)]] (by kernel_rfl) ?_
                  refine AR_op (by kernel_rfl) (OpJ_callK (g := 120) (args := [(.str v20), (.bool v26)]) (by kernel_rfl) Go.Proofs.Try.func120 (by kernel_rfl) (by kernel_rfl) (Fn_pure (F120_ok k6 v20 v26 v48 h11) (by simp [AV.low, AV.lows, AObj.low]) (by simp [AV.low, AV.lows, AObj.low]))) ?_
                  refine AR_many hT 2 [0, 2, 8, 9, 13, 14, 15, 50] [(0, (.ptr 0 0)), (2, (.int .i64 v2)), (8, (.ptr 1 0)), (9, (.ptr 2 0)), (13, (.sl (l69 v1))), (14, (.int .i64 ((l69 v1).length : Int))), (15, (.int .i64 v15)), (50, (.bool (!v48)))] [.cells [(.int .i64 v17), (.int .i64 v18)], .cells [(.int .i64 v19), (.str v20), (.str v21), (.sl (l57 v22)), (.sl (l69 v23)), (.sl (l69 v24)), (.int .i64 v25)], .cells [(.bool v26), (.bool v27), (.int .i64 v28), (.bool v29), (.bool v30)]] (by kernel_rfl) ?_
                  refine AR_op (by kernel_rfl) (OpJ_boolK hT (q := (!v48)) (by kernel_rfl) h12) ?_
                  refine AR_many hT 37 [0, 2, 8, 13, 14, 15, 88] [(0, (.ptr 0 0)), (2, (.int .i64 v2)), (8, (.ptr 1 0)), (13, (.sl (l69 v1))), (14, (.int .i64 ((l69 v1).length : Int))), (15, (.int .i64 v15)), (88, (.bool true))] [.cells [(.int .i64 v17), (.int .i64 v18)], .cells [(.int .i64 v19), (.str v20), (.str v21), (.sl (l57 v22)), (.sl (l69 v23)), (.sl (l69 v24)), (.int .i64 v25)], .cells [(.bool v26), (.bool v27), (.int .i64 v28), (.bool v29), (.bool v30)]] (by kernel_rfl) ?_
                  refine AR_fin (by kernel_rfl) ?_
                  refine AE_keep [0, 2, 8, 13, 14, 15, 88] (env' := [(0, (.ptr 0 0)), (2, (.int .i64 v2)), (8, (.ptr 1 0)), (13, (.sl (l69 v1))), (14, (.int .i64 ((l69 v1).length : Int))), (15, (.int .i64 v15)), (88, (.bool true))]) (by kernel_rfl) ?_
                  exact AE_done ⟨v15, true, v17, v18, v19, v20, v21, v22, v23, v24, v25, v26, v27, v28, v29, v30, rfl, rfl, k6, Nat.le_refl _, h⟩
                · replace h := bifF h12 h
                  obtain ⟨v49, h13, h⟩ := Option.bind_eq_some_iff.mp h
                  try dsimp only at h
                  rcases Bool.eq_false_or_eq_true (!v49) with h14 | h14
                  · replace h := bifT h14 h
                    refine AW_reg ?_
                    refine AR_many hT 2 [0, 2, 8, 9, 13, 14, 15, 42] [(0, (.ptr 0 0)), (2, (.int .i64 v2)), (8, (.ptr 1 0)), (9, (.ptr 2 0)), (13, (.sl (l69 v1))), (14, (.int .i64 ((l69 v1).length : Int))), (15, (.int .i64 v15)), (42, (.bool (!v31)))] [.cells [(.int .i64 v17), (.int .i64 v18)], .cells [(.int .i64 v19), (.str v20), (.str v21), (.sl (l57 v22)), (.sl (l69 v23)), (.sl (l69 v24)), (.int .i64 v25)], .cells [(.bool v26), (.bool v27), (.int .i64 v28), (.bool v29), (.bool v30)]] (by kernel_rfl) ?_
                    refine AR_op (by kernel_rfl) (OpJ_boolK hT (q := (!v31)) (by kernel_rfl) h10) ?_
                    refine AR_many hT 4 [0, 2, 8, 9, 13, 14, 15, 43, 45, 47] [(0, (.ptr 0 0)), (2, (.int .i64 v2)), (8, (.ptr 1 0)), (9, (.ptr 2 0)), (13, (.sl (l69 v1))), (14, (.int .i64 ((l69 v1).length : Int))), (15, (.int .i64 v15)), (43, (.bool false)), (45, (.str v20)), (47, (.bool v26))] [.cells [(.int .i64 v17), (.int .i64 v18)], .cells [(.int .i64 v19), (.str v20), (.str v21), (.sl (l57 v22)), (.sl (l69 v23)), (.sl (l69 v24)), (.int .i64 v25)], .cells [(.bool v26), (.bool v27), (.int .i64 v28), (.bool v29), (.bool v30)]] (by kernel_rfl) ?_
                    refine AR_op (by kernel_rfl) (OpJ_callK (g := 120) (args := [(.str v20), (.bool v26)]) (by kernel_rfl) Go.Proofs.Try.func120 (by kernel_rfl) (by kernel_rfl) (Fn_pure (F120_ok k6 v20 v26 v48 h11) (by simp [AV.low, AV.lows, AObj.low]) (by simp [AV.low, AV.lows, AObj.low]))) ?_
                    refine AR_many hT 2 [0, 2, 8, 9, 13, 14, 15, 50] [(0, (.ptr 0 0)), (2, (.int .i64 v2)), (8, (.ptr 1 0)), (9, (.ptr 2 0)), (13, (.sl (l69 v1))), (14, (.int .i64 ((l69 v1).length : Int))), (15, (.int .i64 v15)), (50, (.bool (!v48)))] [.cells [(.int .i64 v17), (.int .i64 v18)], .cells [(.int .i64 v19), (.str v20), (.str v21), (.sl (l57 v22)), (.sl (l69 v23)), (.sl (l69 v24)), (.int .i64 v25)], .cells [(.bool v26), (.bool v27), (.int .i64 v28), (.bool v29), (.bool v30)]] (by kernel_rfl) ?_
                    refine AR_op (by kernel_rfl) (OpJ_boolK hT (q := (!v48)) (by kernel_rfl) h12) ?_
                    refine AR_many hT 4 [0, 2, 8, 9, 13, 14, 15, 51, 53, 55] [(0, (.ptr 0 0)), (2, (.int .i64 v2)), (8, (.ptr 1 0)), (9, (.ptr 2 0)), (13, (.sl (l69 v1))), (14, (.int .i64 ((l69 v1).length : Int))), (15, (.int .i64 v15)), (51, (.bool false)), (53, (.str v21)), (55, (.bool v27))] [.cells [(.int .i64 v17), (.int .i64 v18)], .cells [(.int .i64 v19), (.str v20), (.str v21), (.sl (l57 v22)), (.sl (l69 v23)), (.sl (l69 v24)), (.int .i64 v25)], .cells [(.bool v26), (.bool v27), (.int .i64 v28), (.bool v29), (.bool v30)]] (by kernel_rfl) ?_
                    refine AR_op (by kernel_rfl) (OpJ_callK (g := 120) (args := [(.str v21), (.bool v27)]) (by kernel_rfl) Go.Proofs.Try.func120 (by kernel_rfl) (by kernel_rfl) (Fn_pure (F120_ok k6 v21 v27 v49 h13) (by simp [AV.low, AV.lows, AObj.low]) (by simp [AV.low, AV.lows, AObj.low]))) ?_
                    refine AR_many hT 2 [0, 2, 8, 9, 13, 14, 15, 58] [(0, (.ptr 0 0)), (2, (.int .i64 v2)), (8, (.ptr 1 0)), (9, (.ptr 2 0)), (13, (.sl (l69 v1))), (14, (.int .i64 ((l69 v1).length : Int))), (15, (.int .i64 v15)), (58, (.bool (!v49)))] [.cells [(.int .i64 v17), (.int .i64 v18)], .cells [(.int .i64 v19), (.str v20), (.str v21), (.sl (l57 v22)), (.sl (l69 v23)), (.sl (l69 v24)), (.int .i64 v25)], .cells [(.bool v26), (.bool v27), (.int .i64 v28), (.bool v29), (.bool v30)]] (by kernel_rfl) ?_
                    refine AR_op (by kernel_rfl) (OpJ_boolK hT (q := (!v49)) (by kernel_rfl) h14) ?_
                    refine AR_many hT 29 [0, 2, 8, 13, 14, 15, 88] [(0, (.ptr 0 0)), (2, (.int .i64 v2)), (8, (.ptr 1 0)), (13, (.sl (l69 v1))), (14, (.int .i64 ((l69 v1).length : Int))), (15, (.int .i64 v15)), (88, (.bool true))] [.cells [(.int .i64 v17), (.int .i64 v18)], .cells [(.int .i64 v19), (.str v20), (.str v21), (.sl (l57 v22)), (.sl (l69 v23)), (.sl (l69 v24)), (.int .i64 v25)], .cells [(.bool v26), (.bool v27), (.int .i64 v28), (.bool v29), (.bool v30)]] (by kernel_rfl) ?_
                    refine AR_fin (by kernel_rfl) ?_
                    refine AE_keep [0, 2, 8, 13, 14, 15, 88] (env' := [(0, (.ptr 0 0)), (2, (.int .i64 v2)), (8, (.ptr 1 0)), (13, (.sl (l69 v1))), (14, (.int .i64 ((l69 v1).length : Int))), (15, (.int .i64 v15)), (88, (.bool true))]) (by kernel_rfl) ?_
                    exact AE_done ⟨v15, true, v17, v18, v19, v20, v21, v22, v23, v24, v25, v26, v27, v28, v29, v30, rfl, rfl, k6, Nat.le_refl _, h⟩
                  · replace h := bifF h14 h
                    rcases Bool.eq_false_or_eq_true (((l57 v22).length : Int) != v28) with h15 | h15
                    · replace h := bifT h15 h
                      refine AW_reg ?_
                      refine AR_many hT 2 [0, 2, 8, 9, 13, 14, 15, 42] [(0, (.ptr 0 0)), (2, (.int .i64 v2)), (8, (.ptr 1 0)), (9, (.ptr 2 0)), (13, (.sl (l69 v1))), (14, (.int .i64 ((l69 v1).length : Int))), (15, (.int .i64 v15)), (42, (.bool (!v31)))] [.cells [(.int .i64 v17), (.int .i64 v18)], .cells [(.int .i64 v19), (.str v20), (.str v21), (.sl (l57 v22)), (.sl (l69 v23)), (.sl (l69 v24)), (.int .i64 v25)], .cells [(.bool v26), (.bool v27), (.int .i64 v28), (.bool v29), (.bool v30)]] (by kernel_rfl) ?_
                      refine AR_op (by kernel_rfl) (OpJ_boolK hT (q := (!v31)) (by kernel_rfl) h10) ?_
                      refine AR_many hT 4 [0, 2, 8, 9, 13, 14, 15, 43, 45, 47] [(0, (.ptr 0 0)), (2, (.int .i64 v2)), (8, (.ptr 1 0)), (9, (.ptr 2 0)), (13, (.sl (l69 v1))), (14, (.int .i64 ((l69 v1).length : Int))), (15, (.int .i64 v15)), (43, (.bool false)), (45, (.str v20)), (47, (.bool v26))] [.cells [(.int .i64 v17), (.int .i64 v18)], .cells [(.int .i64 v19), (.str v20), (.str v21), (.sl (l57 v22)), (.sl (l69 v23)), (.sl (l69 v24)), (.int .i64 v25)], .cells [(.bool v26), (.bool v27), (.int .i64 v28), (.bool v29), (.bool v30)]] (by kernel_rfl) ?_
                      refine AR_op (by kernel_rfl) (OpJ_callK (g := 120) (args := [(.str v20), (.bool v26)]) (by kernel_rfl) Go.Proofs.Try.func120 (by kernel_rfl) (by kernel_rfl) (Fn_pure (F120_ok k6 v20 v26 v48 h11) (by simp [AV.low, AV.lows, AObj.low]) (by simp [AV.low, AV.lows, AObj.low]))) ?_
                      refine AR_many hT 2 [0, 2, 8, 9, 13, 14, 15, 50] [(0, (.ptr 0 0)), (2, (.int .i64 v2)), (8, (.ptr 1 0)), (9, (.ptr 2 0)), (13, (.sl (l69 v1))), (14, (.int .i64 ((l69 v1).length : Int))), (15, (.int .i64 v15)), (50, (.bool (!v48)))] [.cells [(.int .i64 v17), (.int .i64 v18)], .cells [(.int .i64 v19), (.str v20), (.str v21), (.sl (l57 v22)), (.sl (l69 v23)), (.sl (l69 v24)), (.int .i64 v25)], .cells [(.bool v26), (.bool v27), (.int .i64 v28), (.bool v29), (.bool v30)]] (by kernel_rfl) ?_
                      refine AR_op (by kernel_rfl) (OpJ_boolK hT (q := (!v48)) (by kernel_rfl) h12) ?_
                      refine AR_many hT 4 [0, 2, 8, 9, 13, 14, 15, 51, 53, 55] [(0, (.ptr 0 0)), (2, (.int .i64 v2)), (8, (.ptr 1 0)), (9, (.ptr 2 0)), (13, (.sl (l69 v1))), (14, (.int .i64 ((l69 v1).length : Int))), (15, (.int .i64 v15)), (51, (.bool false)), (53, (.str v21)), (55, (.bool v27))] [.cells [(.int .i64 v17), (.int .i64 v18)], .cells [(.int .i64 v19), (.str v20), (.str v21), (.sl (l57 v22)), (.sl (l69 v23)), (.sl (l69 v24)), (.int .i64 v25)], .cells [(.bool v26), (.bool v27), (.int .i64 v28), (.bool v29), (.bool v30)]] (by kernel_rfl) ?_
                      refine AR_op (by kernel_rfl) (OpJ_callK (g := 120) (args := [(.str v21), (.bool v27)]) (by kernel_rfl) Go.Proofs.Try.func120 (by kernel_rfl) (by kernel_rfl) (Fn_pure (F120_ok k6 v21 v27 v49 h13) (by simp [AV.low, AV.lows, AObj.low]) (by simp [AV.low, AV.lows, AObj.low]))) ?_
                      refine AR_many hT 2 [0, 2, 8, 9, 13, 14, 15, 58] [(0, (.ptr 0 0)), (2, (.int .i64 v2)), (8, (.ptr 1 0)), (9, (.ptr 2 0)), (13, (.sl (l69 v1))), (14, (.int .i64 ((l69 v1).length : Int))), (15, (.int .i64 v15)), (58, (.bool (!v49)))] [.cells [(.int .i64 v17), (.int .i64 v18)], .cells [(.int .i64 v19), (.str v20), (.str v21), (.sl (l57 v22)), (.sl (l69 v23)), (.sl (l69 v24)), (.int .i64 v25)], .cells [(.bool v26), (.bool v27), (.int .i64 v28), (.bool v29), (.bool v30)]] (by kernel_rfl) ?_
                      refine AR_op (by kernel_rfl) (OpJ_boolK hT (q := (!v49)) (by kernel_rfl) h14) ?_
                      refine AR_many hT 7 [0, 2, 8, 9, 13, 14, 15, 66] [(0, (.ptr 0 0)), (2, (.int .i64 v2)), (8, (.ptr 1 0)), (9, (.ptr 2 0)), (13, (.sl (l69 v1))), (14, (.int .i64 ((l69 v1).length : Int))), (15, (.int .i64 v15)), (66, (.bool (((l57 v22).length : Int) != v28)))] [.cells [(.int .i64 v17), (.int .i64 v18)], .cells [(.int .i64 v19), (.str v20), (.str v21), (.sl (l57 v22)), (.sl (l69 v23)), (.sl (l69 v24)), (.int .i64 v25)], .cells [(.bool v26), (.bool v27), (.int .i64 v28), (.bool v29), (.bool v30)]] (by kernel_rfl) ?_
                      refine AR_op (by kernel_rfl) (OpJ_boolK hT (q := (((l57 v22).length : Int) != v28)) (by kernel_rfl) h15) ?_
                      refine AR_many hT 21 [0, 2, 8, 13, 14, 15, 88] [(0, (.ptr 0 0)), (2, (.int .i64 v2)), (8, (.ptr 1 0)), (13, (.sl (l69 v1))), (14, (.int .i64 ((l69 v1).length : Int))), (15, (.int .i64 v15)), (88, (.bool true))] [.cells [(.int .i64 v17), (.int .i64 v18)], .cells [(.int .i64 v19), (.str v20), (.str v21), (.sl (l57 v22)), (.sl (l69 v23)), (.sl (l69 v24)), (.int .i64 v25)], .cells [(.bool v26), (.bool v27), (.int .i64 v28), (.bool v29), (.bool v30)]] (by kernel_rfl) ?_
                      refine AR_fin (by kernel_rfl) ?_
                      refine AE_keep [0, 2, 8, 13, 14, 15, 88] (env' := [(0, (.ptr 0 0)), (2, (.int .i64 v2)), (8, (.ptr 1 0)), (13, (.sl (l69 v1))), (14, (.int .i64 ((l69 v1).length : Int))), (15, (.int .i64 v15)), (88, (.bool true))]) (by kernel_rfl) ?_
                      exact AE_done ⟨v15, true, v17, v18, v19, v20, v21, v22, v23, v24, v25, v26, v27, v28, v29, v30, rfl, rfl, k6, Nat.le_refl _, h⟩
                    · replace h := bifF h15 h
                      rcases Bool.eq_false_or_eq_true (!v29) with h16 | h16
                      · replace h := bifT h16 h
                        rcases Bool.eq_false_or_eq_true (decide (((l69 v23).length : Int) > 0)) with h17 | h17
                        · replace h := bifT h17 h
                          refine AW_reg ?_
                          refine AR_many hT 2 [0, 2, 8, 9, 13, 14, 15, 42] [(0, (.ptr 0 0)), (2, (.int .i64 v2)), (8, (.ptr 1 0)), (9, (.ptr 2 0)), (13, (.sl (l69 v1))), (14, (.int .i64 ((l69 v1).length : Int))), (15, (.int .i64 v15)), (42, (.bool (!v31)))] [.cells [(.int .i64 v17), (.int .i64 v18)], .cells [(.int .i64 v19), (.str v20), (.str v21), (.sl (l57 v22)), (.sl (l69 v23)), (.sl (l69 v24)), (.int .i64 v25)], .cells [(.bool v26), (.bool v27), (.int .i64 v28), (.bool v29), (.bool v30)]] (by kernel_rfl) ?_
                          refine AR_op (by kernel_rfl) (OpJ_boolK hT (q := (!v31)) (by kernel_rfl) h10) ?_
                          refine AR_many hT 4 [0, 2, 8, 9, 13, 14, 15, 43, 45, 47] [(0, (.ptr 0 0)), (2, (.int .i64 v2)), (8, (.ptr 1 0)), (9, (.ptr 2 0)), (13, (.sl (l69 v1))), (14, (.int .i64 ((l69 v1).length : Int))), (15, (.int .i64 v15)), (43, (.bool false)), (45, (.str v20)), (47, (.bool v26))] [.cells [(.int .i64 v17), (.int .i64 v18)], .cells [(.int .i64 v19), (.str v20), (.str v21), (.sl (l57 v22)), (.sl (l69 v23)), (.sl (l69 v24)), (.int .i64 v25)], .cells [(.bool v26), (.bool v27), (.int .i64 v28), (.bool v29), (.bool v30)]] (by kernel_rfl) ?_
                          refine AR_op (by kernel_rfl) (OpJ_callK (g := 120) (args := [(.str v20), (.bool v26)]) (by kernel_rfl) Go.Proofs.Try.func120 (by kernel_rfl) (by kernel_rfl) (Fn_pure (F120_ok k6 v20 v26 v48 h11) (by simp [AV.low, AV.lows, AObj.low]) (by simp [AV.low, AV.lows, AObj.low]))) ?_
                          refine AR_many hT 2 [0, 2, 8, 9, 13, 14, 15, 50] [(0, (.ptr 0 0)), (2, (.int .i64 v2)), (8, (.ptr 1 0)), (9, (.ptr 2 0)), (13, (.sl (l69 v1))), (14, (.int .i64 ((l69 v1).length : Int))), (15, (.int .i64 v15)), (50, (.bool (!v48)))] [.cells [(.int .i64 v17), (.int .i64 v18)], .cells [(.int .i64 v19), (.str v20), (.str v21), (.sl (l57 v22)), (.sl (l69 v23)), (.sl (l69 v24)), (.int .i64 v25)], .cells [(.bool v26), (.bool v27), (.int .i64 v28), (.bool v29), (.bool v30)]] (by kernel_rfl) ?_
                          refine AR_op (by kernel_rfl) (OpJ_boolK hT (q := (!v48)) (by kernel_rfl) h12) ?_
                          refine AR_many hT 4 [0, 2, 8, 9, 13, 14, 15, 51, 53, 55] [(0, (.ptr 0 0)), (2, (.int .i64 v2)), (8, (.ptr 1 0)), (9, (.ptr 2 0)), (13, (.sl (l69 v1))), (14, (.int .i64 ((l69 v1).length : Int))), (15, (.int .i64 v15)), (51, (.bool false)), (53, (.str v21)), (55, (.bool v27))] [.cells [(.int .i64 v17), (.int .i64 v18)], .cells [(.int .i64 v19), (.str v20), (.str v21), (.sl (l57 v22)), (.sl (l69 v23)), (.sl (l69 v24)), (.int .i64 v25)], .cells [(.bool v26), (.bool v27), (.int .i64 v28), (.bool v29), (.bool v30)]] (by kernel_rfl) ?_
                          refine AR_op (by kernel_rfl) (OpJ_callK (g := 120) (args := [(.str v21), (.bool v27)]) (by kernel_rfl) Go.Proofs.Try.func120 (by kernel_rfl) (by kernel_rfl) (Fn_pure (F120_ok k6 v21 v27 v49 h13) (by simp [AV.low, AV.lows, AObj.low]) (by simp [AV.low, AV.lows, AObj.low]))) ?_
                          refine AR_many hT 2 [0, 2, 8, 9, 13, 14, 15, 58] [(0, (.ptr 0 0)), (2, (.int .i64 v2)), (8, (.ptr 1 0)), (9, (.ptr 2 0)), (13, (.sl (l69 v1))), (14, (.int .i64 ((l69 v1).length : Int))), (15, (.int .i64 v15)), (58, (.bool (!v49)))] [.cells [(.int .i64 v17), (.int .i64 v18)], .cells [(.int .i64 v19), (.str v20), (.str v21), (.sl (l57 v22)), (.sl (l69 v23)), (.sl (l69 v24)), (.int .i64 v25)], .cells [(.bool v26), (.bool v27), (.int .i64 v28), (.bool v29), (.bool v30)]] (by kernel_rfl) ?_
                          refine AR_op (by kernel_rfl) (OpJ_boolK hT (q := (!v49)) (by kernel_rfl) h14) ?_
                          refine AR_many hT 7 [0, 2, 8, 9, 13, 14, 15, 66] [(0, (.ptr 0 0)), (2, (.int .i64 v2)), (8, (.ptr 1 0)), (9, (.ptr 2 0)), (13, (.sl (l69 v1))), (14, (.int .i64 ((l69 v1).length : Int))), (15, (.int .i64 v15)), (66, (.bool (((l57 v22).length : Int) != v28)))] [.cells [(.int .i64 v17), (.int .i64 v18)], .cells [(.int .i64 v19), (.str v20), (.str v21), (.sl (l57 v22)), (.sl (l69 v23)), (.sl (l69 v24)), (.int .i64 v25)], .cells [(.bool v26), (.bool v27), (.int .i64 v28), (.bool v29), (.bool v30)]] (by kernel_rfl) ?_
                          refine AR_op (by kernel_rfl) (OpJ_boolK hT (q := (((l57 v22).length : Int) != v28)) (by kernel_rfl) h15) ?_
                          refine AR_many hT 3 [0, 2, 8, 9, 13, 14, 15, 67, 70] [(0, (.ptr 0 0)), (2, (.int .i64 v2)), (8, (.ptr 1 0)), (9, (.ptr 2 0)), (13, (.sl (l69 v1))), (14, (.int .i64 ((l69 v1).length : Int))), (15, (.int .i64 v15)), (67, (.bool false)), (70, (.bool (!v29)))] [.cells [(.int .i64 v17), (.int .i64 v18)], .cells [(.int .i64 v19), (.str v20), (.str v21), (.sl (l57 v22)), (.sl (l69 v23)), (.sl (l69 v24)), (.int .i64 v25)], .cells [(.bool v26), (.bool v27), (.int .i64 v28), (.bool v29), (.bool v30)]] (by kernel_rfl) ?_
                          refine AR_op (by kernel_rfl) (OpJ_boolK hT (q := (!v29)) (by kernel_rfl) h16) ?_
                          refine AR_many hT 6 [0, 2, 8, 9, 13, 14, 15, 77] [(0, (.ptr 0 0)), (2, (.int .i64 v2)), (8, (.ptr 1 0)), (9, (.ptr 2 0)), (13, (.sl (l69 v1))), (14, (.int .i64 ((l69 v1).length : Int))), (15, (.int .i64 v15)), (77, (.bool (decide (((l69 v23).length : Int) > 0))))] [.cells [(.int .i64 v17), (.int .i64 v18)], .cells [(.int .i64 v19), (.str v20), (.str v21), (.sl (l57 v22)), (.sl (l69 v23)), (.sl (l69 v24)), (.int .i64 v25)], .cells [(.bool v26), (.bool v27), (.int .i64 v28), (.bool v29), (.bool v30)]] (by kernel_rfl) ?_
                          refine AR_op (by kernel_rfl) (OpJ_boolK hT (q := (decide (((l69 v23).length : Int) > 0))) (by kernel_rfl) h17) ?_
                          refine AR_many hT 10 [0, 2, 8, 13, 14, 15, 88] [(0, (.ptr 0 0)), (2, (.int .i64 v2)), (8, (.ptr 1 0)), (13, (.sl (l69 v1))), (14, (.int .i64 ((l69 v1).length : Int))), (15, (.int .i64 v15)), (88, (.bool true))] [.cells [(.int .i64 v17), (.int .i64 v18)], .cells [(.int .i64 v19), (.str v20), (.str v21), (.sl (l57 v22)), (.sl (l69 v23)), (.sl (l69 v24)), (.int .i64 v25)], .cells [(.bool v26), (.bool v27), (.int .i64 v28), (.bool v29), (.bool v30)]] (by kernel_rfl) ?_
                          refine AR_fin (by kernel_rfl) ?_
                          refine AE_keep [0, 2, 8, 13, 14, 15, 88] (env' := [(0, (.ptr 0 0)), (2, (.int .i64 v2)), (8, (.ptr 1 0)), (13, (.sl (l69 v1))), (14, (.int .i64 ((l69 v1).length : Int))), (15, (.int .i64 v15)), (88, (.bool true))]) (by kernel_rfl) ?_
                          exact AE_done ⟨v15, true, v17, v18, v19, v20, v21, v22, v23, v24, v25, v26, v27, v28, v29, v30, rfl, rfl, k6, Nat.le_refl _, h⟩
                        · replace h := bifF h17 h
                          rcases Bool.eq_false_or_eq_true (!v30) with h18 | h18
                          · replace h := bifT h18 h
                            refine AW_reg ?_
                            refine AR_many hT 2 [0, 2, 8, 9, 13, 14, 15, 42] [(0, (.ptr 0 0)), (2, (.int .i64 v2)), (8, (.ptr 1 0)), (9, (.ptr 2 0)), (13, (.sl (l69 v1))), (14, (.int .i64 ((l69 v1).length : Int))), (15, (.int .i64 v15)), (42, (.bool (!v31)))] [.cells [(.int .i64 v17), (.int .i64 v18)], .cells [(.int .i64 v19), (.str v20), (.str v21), (.sl (l57 v22)), (.sl (l69 v23)), (.sl (l69 v24)), (.int .i64 v25)], .cells [(.bool v26), (.bool v27), (.int .i64 v28), (.bool v29), (.bool v30)]] (by kernel_rfl) ?_
                            refine AR_op (by kernel_rfl) (OpJ_boolK hT (q := (!v31)) (by kernel_rfl) h10) ?_
                            refine AR_many hT 4 [0, 2, 8, 9, 13, 14, 15, 43, 45, 47] [(0, (.ptr 0 0)), (2, (.int .i64 v2)), (8, (.ptr 1 0)), (9, (.ptr 2 0)), (13, (.sl (l69 v1))), (14, (.int .i64 ((l69 v1).length : Int))), (15, (.int .i64 v15)), (43, (.bool false)), (45, (.str v20)), (47, (.bool v26))] [.cells [(.int .i64 v17), (.int .i64 v18)], .cells [(.int .i64 v19), (.str v20), (.str v21), (.sl (l57 v22)), (.sl (l69 v23)), (.sl (l69 v24)), (.int .i64 v25)], .cells [(.bool v26), (.bool v27), (.int .i64 v28), (.bool v29), (.bool v30)]] (by kernel_rfl) ?_
                            refine AR_op (by kernel_rfl) (OpJ_callK (g := 120) (args := [(.str v20), (.bool v26)]) (by kernel_rfl) Go.Proofs.Try.func120 (by kernel_rfl) (by kernel_rfl) (Fn_pure (F120_ok k6 v20 v26 v48 h11) (by simp [AV.low, AV.lows, AObj.low]) (by simp [AV.low, AV.lows, AObj.low]))) ?_
                            refine AR_many hT 2 [0, 2, 8, 9, 13, 14, 15, 50] [(0, (.ptr 0 0)), (2, (.int .i64 v2)), (8, (.ptr 1 0)), (9, (.ptr 2 0)), (13, (.sl (l69 v1))), (14, (.int .i64 ((l69 v1).length : Int))), (15, (.int .i64 v15)), (50, (.bool (!v48)))] [.cells [(.int .i64 v17), (.int .i64 v18)], .cells [(.int .i64 v19), (.str v20), (.str v21), (.sl (l57 v22)), (.sl (l69 v23)), (.sl (l69 v24)), (.int .i64 v25)], .cells [(.bool v26), (.bool v27), (.int .i64 v28), (.bool v29), (.bool v30)]] (by kernel_rfl) ?_
                            refine AR_op (by kernel_rfl) (OpJ_boolK hT (q := (!v48)) (by kernel_rfl) h12) ?_
                            refine AR_many hT 4 [0, 2, 8, 9, 13, 14, 15, 51, 53, 55] [(0, (.ptr 0 0)), (2, (.int .i64 v2)), (8, (.ptr 1 0)), (9, (.ptr 2 0)), (13, (.sl (l69 v1))), (14, (.int .i64 ((l69 v1).length : Int))), (15, (.int .i64 v15)), (51, (.bool false)), (53, (.str v21)), (55, (.bool v27))] [.cells [(.int .i64 v17), (.int .i64 v18)], .cells [(.int .i64 v19), (.str v20), (.str v21), (.sl (l57 v22)), (.sl (l69 v23)), (.sl (l69 v24)), (.int .i64 v25)], .cells [(.bool v26), (.bool v27), (.int .i64 v28), (.bool v29), (.bool v30)]] (by kernel_rfl) ?_
                            refine AR_op (by kernel_rfl) (OpJ_callK (g := 120) (args := [(.str v21), (.bool v27)]) (by kernel_rfl) Go.Proofs.Try.func120 (by kernel_rfl) (by kernel_rfl) (Fn_pure (F120_ok k6 v21 v27 v49 h13) (by simp [AV.low, AV.lows, AObj.low]) (by simp [AV.low, AV.lows, AObj.low]))) ?_
                            refine AR_many hT 2 [0, 2, 8, 9, 13, 14, 15, 58] [(0, (.ptr 0 0)), (2, (.int .i64 v2)), (8, (.ptr 1 0)), (9, (.ptr 2 0)), (13, (.sl (l69 v1))), (14, (.int .i64 ((l69 v1).length : Int))), (15, (.int .i64 v15)), (58, (.bool (!v49)))] [.cells [(.int .i64 v17), (.int .i64 v18)], .cells [(.int .i64 v19), (.str v20), (.str v21), (.sl (l57 v22)), (.sl (l69 v23)), (.sl (l69 v24)), (.int .i64 v25)], .cells [(.bool v26), (.bool v27), (.int .i64 v28), (.bool v29), (.bool v30)]] (by kernel_rfl) ?_
                            refine AR_op (by kernel_rfl) (OpJ_boolK hT (q := (!v49)) (by kernel_rfl) h14) ?_
                            refine AR_many hT 7 [0, 2, 8, 9, 13, 14, 15, 66] [(0, (.ptr 0 0)), (2, (.int .i64 v2)), (8, (.ptr 1 0)), (9, (.ptr 2 0)), (13, (.sl (l69 v1))), (14, (.int .i64 ((l69 v1).length : Int))), (15, (.int .i64 v15)), (66, (.bool (((l57 v22).length : Int) != v28)))] [.cells [(.int .i64 v17), (.int .i64 v18)], .cells [(.int .i64 v19), (.str v20), (.str v21), (.sl (l57 v22)), (.sl (l69 v23)), (.sl (l69 v24)), (.int .i64 v25)], .cells [(.bool v26), (.bool v27), (.int .i64 v28), (.bool v29), (.bool v30)]] (by kernel_rfl) ?_
                            refine AR_op (by kernel_rfl) (OpJ_boolK hT (q := (((l57 v22).length : Int) != v28)) (by kernel_rfl) h15) ?_
                            refine AR_many hT 3 [0, 2, 8, 9, 13, 14, 15, 67, 70] [(0, (.ptr 0 0)), (2, (.int .i64 v2)), (8, (.ptr 1 0)), (9, (.ptr 2 0)), (13, (.sl (l69 v1))), (14, (.int .i64 ((l69 v1).length : Int))), (15, (.int .i64 v15)), (67, (.bool false)), (70, (.bool (!v29)))] [.cells [(.int .i64 v17), (.int .i64 v18)], .cells [(.int .i64 v19), (.str v20), (.str v21), (.sl (l57 v22)), (.sl (l69 v23)), (.sl (l69 v24)), (.int .i64 v25)], .cells [(.bool v26), (.bool v27), (.int .i64 v28), (.bool v29), (.bool v30)]] (by kernel_rfl) ?_
                            refine AR_op (by kernel_rfl) (OpJ_boolK hT (q := (!v29)) (by kernel_rfl) h16) ?_
                            refine AR_many hT 6 [0, 2, 8, 9, 13, 14, 15, 77] [(0, (.ptr 0 0)), (2, (.int .i64 v2)), (8, (.ptr 1 0)), (9, (.ptr 2 0)), (13, (.sl (l69 v1))), (14, (.int .i64 ((l69 v1).length : Int))), (15, (.int .i64 v15)), (77, (.bool (decide (((l69 v23).length : Int) > 0))))] [.cells [(.int .i64 v17), (.int .i64 v18)], .cells [(.int .i64 v19), (.str v20), (.str v21), (.sl (l57 v22)), (.sl (l69 v23)), (.sl (l69 v24)), (.int .i64 v25)], .cells [(.bool v26), (.bool v27), (.int .i64 v28), (.bool v29), (.bool v30)]] (by kernel_rfl) ?_
                            refine AR_op (by kernel_rfl) (OpJ_boolK hT (q := (decide (((l69 v23).length : Int) > 0))) (by kernel_rfl) h17) ?_
                            refine AR_many hT 3 [0, 2, 8, 13, 14, 15, 78, 81] [(0, (.ptr 0 0)), (2, (.int .i64 v2)), (8, (.ptr 1 0)), (13, (.sl (l69 v1))), (14, (.int .i64 ((l69 v1).length : Int))), (15, (.int .i64 v15)), (78, (.bool false)), (81, (.bool (!v30)))] [.cells [(.int .i64 v17), (.int .i64 v18)], .cells [(.int .i64 v19), (.str v20), (.str v21), (.sl (l57 v22)), (.sl (l69 v23)), (.sl (l69 v24)), (.int .i64 v25)], .cells [(.bool v26), (.bool v27), (.int .i64 v28), (.bool v29), (.bool v30)]] (by kernel_rfl) ?_
                            refine AR_op (by kernel_rfl) (OpJ_boolK hT (q := (!v30)) (by kernel_rfl) h18) ?_
                            refine AR_many hT 6 [0, 2, 8, 13, 14, 15, 88] [(0, (.ptr 0 0)), (2, (.int .i64 v2)), (8, (.ptr 1 0)), (13, (.sl (l69 v1))), (14, (.int .i64 ((l69 v1).length : Int))), (15, (.int .i64 v15)), (88, (.bool (decide (((l69 v24).length : Int) > 0))))] [.cells [(.int .i64 v17), (.int .i64 v18)], .cells [(.int .i64 v19), (.str v20), (.str v21), (.sl (l57 v22)), (.sl (l69 v23)), (.sl (l69 v24)), (.int .i64 v25)], .cells [(.bool v26), (.bool v27), (.int .i64 v28), (.bool v29), (.bool v30)]] (by kernel_rfl) ?_
                            refine AR_fin (by kernel_rfl) ?_
                            refine AE_keep [0, 2, 8, 13, 14, 15, 88] (env' := [(0, (.ptr 0 0)), (2, (.int .i64 v2)), (8, (.ptr 1 0)), (13, (.sl (l69 v1))), (14, (.int .i64 ((l69 v1).length : Int))), (15, (.int .i64 v15)), (88, (.bool (decide (((l69 v24).length : Int) > 0))))]) (by kernel_rfl) ?_
                            exact AE_done ⟨v15, (decide (((l69 v24).length : Int) > 0)), v17, v18, v19, v20, v21, v22, v23, v24, v25, v26, v27, v28, v29, v30, rfl, rfl, k6, Nat.le_refl _, h⟩
                          · replace h := bifF h18 h
                            refine AW_reg ?_
                            refine AR_many hT 2 [0, 2, 8, 9, 13, 14, 15, 42] [(0, (.ptr 0 0)), (2, (.int .i64 v2)), (8, (.ptr 1 0)), (9, (.ptr 2 0)), (13, (.sl (l69 v1))), (14, (.int .i64 ((l69 v1).length : Int))), (15, (.int .i64 v15)), (42, (.bool (!v31)))] [.cells [(.int .i64 v17), (.int .i64 v18)], .cells [(.int .i64 v19), (.str v20), (.str v21), (.sl (l57 v22)), (.sl (l69 v23)), (.sl (l69 v24)), (.int .i64 v25)], .cells [(.bool v26), (.bool v27), (.int .i64 v28), (.bool v29), (.bool v30)]] (by kernel_rfl) ?_
                            refine AR_op (by kernel_rfl) (OpJ_boolK hT (q := (!v31)) (by kernel_rfl) h10) ?_
                            refine AR_many hT 4 [0, 2, 8, 9, 13, 14, 15, 43, 45, 47] [(0, (.ptr 0 0)), (2, (.int .i64 v2)), (8, (.ptr 1 0)), (9, (.ptr 2 0)), (13, (.sl (l69 v1))), (14, (.int .i64 ((l69 v1).length : Int))), (15, (.int .i64 v15)), (43, (.bool false)), (45, (.str v20)), (47, (.bool v26))] [.cells [(.int .i64 v17), (.int .i64 v18)], .cells [(.int .i64 v19), (.str v20), (.str v21), (.sl (l57 v22)), (.sl (l69 v23)), (.sl (l69 v24)), (.int .i64 v25)], .cells [(.bool v26), (.bool v27), (.int .i64 v28), (.bool v29), (.bool v30)]] (by kernel_rfl) ?_
                            refine AR_op (by kernel_rfl) (OpJ_callK (g := 120) (args := [(.str v20), (.bool v26)]) (by kernel_rfl) Go.Proofs.Try.func120 (by kernel_rfl) (by kernel_rfl) (Fn_pure (F120_ok k6 v20 v26 v48 h11) (by simp [AV.low, AV.lows, AObj.low]) (by simp [AV.low, AV.lows, AObj.low]))) ?_
                            refine AR_many hT 2 [0, 2, 8, 9, 13, 14, 15, 50] [(0, (.ptr 0 0)), (2, (.int .i64 v2)), (8, (.ptr 1 0)), (9, (.ptr 2 0)), (13, (.sl (l69 v1))), (14, (.int .i64 ((l69 v1).length : Int))), (15, (.int .i64 v15)), (50, (.bool (!v48)))] [.cells [(.int .i64 v17), (.int .i64 v18)], .cells [(.int .i64 v19), (.str v20), (.str v21), (.sl (l57 v22)), (.sl (l69 v23)), (.sl (l69 v24)), (.int .i64 v25)], .cells [(.bool v26), (.bool v27), (.int .i64 v28), (.bool v29), (.bool v30)]] (by kernel_rfl) ?_
                            refine AR_op (by kernel_rfl) (OpJ_boolK hT (q := (!v48)) (by kernel_rfl) h12) ?_
                            refine AR_many hT 4 [0, 2, 8, 9, 13, 14, 15, 51, 53, 55] [(0, (.ptr 0 0)), (2, (.int .i64 v2)), (8, (.ptr 1 0)), (9, (.ptr 2 0)), (13, (.sl (l69 v1))), (14, (.int .i64 ((l69 v1).length : Int))), (15, (.int .i64 v15)), (51, (.bool false)), (53, (.str v21)), (55, (.bool v27))] [.cells [(.int .i64 v17), (.int .i64 v18)], .cells [(.int .i64 v19), (.str v20), (.str v21), (.sl (l57 v22)), (.sl (l69 v23)), (.sl (l69 v24)), (.int .i64 v25)], .cells [(.bool v26), (.bool v27), (.int .i64 v28), (.bool v29), (.bool v30)]] (by kernel_rfl) ?_
                            refine AR_op (by kernel_rfl) (OpJ_callK (g := 120) (args := [(.str v21), (.bool v27)]) (by kernel_rfl) Go.Proofs.Try.func120 (by kernel_rfl) (by kernel_rfl) (Fn_pure (F120_ok k6 v21 v27 v49 h13) (by simp [AV.low, AV.lows, AObj.low]) (by simp [AV.low, AV.lows, AObj.low]))) ?_
                            refine AR_many hT 2 [0, 2, 8, 9, 13, 14, 15, 58] [(0, (.ptr 0 0)), (2, (.int .i64 v2)), (8, (.ptr 1 0)), (9, (.ptr 2 0)), (13, (.sl (l69 v1))), (14, (.int .i64 ((l69 v1).length : Int))), (15, (.int .i64 v15)), (58, (.bool (!v49)))] [.cells [(.int .i64 v17), (.int .i64 v18)], .cells [(.int .i64 v19), (.str v20), (.str v21), (.sl (l57 v22)), (.sl (l69 v23)), (.sl (l69 v24)), (.int .i64 v25)], .cells [(.bool v26), (.bool v27), (.int .i64 v28), (.bool v29), (.bool v30)]] (by kernel_rfl) ?_
                            refine AR_op (by kernel_rfl) (OpJ_boolK hT (q := (!v49)) (by kernel_rfl) h14) ?_
                            refine AR_many hT 7 [0, 2, 8, 9, 13, 14, 15, 66] [(0, (.ptr 0 0)), (2, (.int .i64 v2)), (8, (.ptr 1 0)), (9, (.ptr 2 0)), (13, (.sl (l69 v1))), (14, (.int .i64 ((l69 v1).length : Int))), (15, (.int .i64 v15)), (66, (.bool (((l57 v22).length : Int) != v28)))] [.cells [(.int .i64 v17), (.int .i64 v18)], .cells [(.int .i64 v19), (.str v20), (.str v21), (.sl (l57 v22)), (.sl (l69 v23)), (.sl (l69 v24)), (.int .i64 v25)], .cells [(.bool v26), (.bool v27), (.int .i64 v28), (.bool v29), (.bool v30)]] (by kernel_rfl) ?_
                            refine AR_op (by kernel_rfl) (OpJ_boolK hT (q := (((l57 v22).length : Int) != v28)) (by kernel_rfl) h15) ?_
                            refine AR_many hT 3 [0, 2, 8, 9, 13, 14, 15, 67, 70] [(0, (.ptr 0 0)), (2, (.int .i64 v2)), (8, (.ptr 1 0)), (9, (.ptr 2 0)), (13, (.sl (l69 v1))), (14, (.int .i64 ((l69 v1).length : Int))), (15, (.int .i64 v15)), (67, (.bool false)), (70, (.bool (!v29)))] [.cells [(.int .i64 v17), (.int .i64 v18)], .cells [(.int .i64 v19), (.str v20), (.str v21), (.sl (l57 v22)), (.sl (l69 v23)), (.sl (l69 v24)), (.int .i64 v25)], .cells [(.bool v26), (.bool v27), (.int .i64 v28), (.bool v29), (.bool v30)]] (by kernel_rfl) ?_
                            refine AR_op (by kernel_rfl) (OpJ_boolK hT (q := (!v29)) (by kernel_rfl) h16) ?_
                            refine AR_many hT 6 [0, 2, 8, 9, 13, 14, 15, 77] [(0, (.ptr 0 0)), (2, (.int .i64 v2)), (8, (.ptr 1 0)), (9, (.ptr 2 0)), (13, (.sl (l69 v1))), (14, (.int .i64 ((l69 v1).length : Int))), (15, (.int .i64 v15)), (77, (.bool (decide (((l69 v23).length : Int) > 0))))] [.cells [(.int .i64 v17), (.int .i64 v18)], .cells [(.int .i64 v19), (.str v20), (.str v21), (.sl (l57 v22)), (.sl (l69 v23)), (.sl (l69 v24)), (.int .i64 v25)], .cells [(.bool v26), (.bool v27), (.int .i64 v28), (.bool v29), (.bool v30)]] (by kernel_rfl) ?_
                            refine AR_op (by kernel_rfl) (OpJ_boolK hT (q := (decide (((l69 v23).length : Int) > 0))) (by kernel_rfl) h17) ?_
                            refine AR_many hT 3 [0, 2, 8, 13, 14, 15, 78, 81] [(0, (.ptr 0 0)), (2, (.int .i64 v2)), (8, (.ptr 1 0)), (13, (.sl (l69 v1))), (14, (.int .i64 ((l69 v1).length : Int))), (15, (.int .i64 v15)), (78, (.bool false)), (81, (.bool (!v30)))] [.cells [(.int .i64 v17), (.int .i64 v18)], .cells [(.int .i64 v19), (.str v20), (.str v21), (.sl (l57 v22)), (.sl (l69 v23)), (.sl (l69 v24)), (.int .i64 v25)], .cells [(.bool v26), (.bool v27), (.int .i64 v28), (.bool v29), (.bool v30)]] (by kernel_rfl) ?_
                            refine AR_op (by kernel_rfl) (OpJ_boolK hT (q := (!v30)) (by kernel_rfl) h18) ?_
                            refine AR_many hT 6 [0, 2, 8, 13, 14, 15, 88] [(0, (.ptr 0 0)), (2, (.int .i64 v2)), (8, (.ptr 1 0)), (13, (.sl (l69 v1))), (14, (.int .i64 ((l69 v1).length : Int))), (15, (.int .i64 v15)), (88, (.bool false))] [.cells [(.int .i64 v17), (.int .i64 v18)], .cells [(.int .i64 v19), (.str v20), (.str v21), (.sl (l57 v22)), (.sl (l69 v23)), (.sl (l69 v24)), (.int .i64 v25)], .cells [(.bool v26), (.bool v27), (.int .i64 v28), (.bool v29), (.bool v30)]] (by kernel_rfl) ?_
                            refine AR_fin (by kernel_rfl) ?_
                            refine AE_keep [0, 2, 8, 13, 14, 15, 88] (env' := [(0, (.ptr 0 0)), (2, (.int .i64 v2)), (8, (.ptr 1 0)), (13, (.sl (l69 v1))), (14, (.int .i64 ((l69 v1).length : Int))), (15, (.int .i64 v15)), (88, (.bool false))]) (by kernel_rfl) ?_
                            exact AE_done ⟨v15, false, v17, v18, v19, v20, v21, v22, v23, v24, v25, v26, v27, v28, v29, v30, rfl, rfl, k6, Nat.le_refl _, h⟩
                      · replace h := bifF h16 h
                        rcases Bool.eq_false_or_eq_true (!v30) with h19 | h19
                        · replace h := bifT h19 h
                          refine AW_reg ?_
                          refine AR_many hT 2 [0, 2, 8, 9, 13, 14, 15, 42] [(0, (.ptr 0 0)), (2, (.int .i64 v2)), (8, (.ptr 1 0)), (9, (.ptr 2 0)), (13, (.sl (l69 v1))), (14, (.int .i64 ((l69 v1).length : Int))), (15, (.int .i64 v15)), (42, (.bool (!v31)))] [.cells [(.int .i64 v17), (.int .i64 v18)], .cells [(.int .i64 v19), (.str v20), (.str v21), (.sl (l57 v22)), (.sl (l69 v23)), (.sl (l69 v24)), (.int .i64 v25)], .cells [(.bool v26), (.bool v27), (.int .i64 v28), (.bool v29), (.bool v30)]] (by kernel_rfl) ?_
                          refine AR_op (by kernel_rfl) (OpJ_boolK hT (q := (!v31)) (by kernel_rfl) h10) ?_
                          refine AR_many hT 4 [0, 2, 8, 9, 13, 14, 15, 43, 45, 47] [(0, (.ptr 0 0)), (2, (.int .i64 v2)), (8, (.ptr 1 0)), (9, (.ptr 2 0)), (13, (.sl (l69 v1))), (14, (.int .i64 ((l69 v1).length : Int))), (15, (.int .i64 v15)), (43, (.bool false)), (45, (.str v20)), (47, (.bool v26))] [.cells [(.int .i64 v17), (.int .i64 v18)], .cells [(.int .i64 v19), (.str v20), (.str v21), (.sl (l57 v22)), (.sl (l69 v23)), (.sl (l69 v24)), (.int .i64 v25)], .cells [(.bool v26), (.bool v27), (.int .i64 v28), (.bool v29), (.bool v30)]] (by kernel_rfl) ?_
                          refine AR_op (by kernel_rfl) (OpJ_callK (g := 120) (args := [(.str v20), (.bool v26)]) (by kernel_rfl) Go.Proofs.Try.func120 (by kernel_rfl) (by kernel_rfl) (Fn_pure (F120_ok k6 v20 v26 v48 h11) (by simp [AV.low, AV.lows, AObj.low]) (by simp [AV.low, AV.lows, AObj.low]))) ?_
                          refine AR_many hT 2 [0, 2, 8, 9, 13, 14, 15, 50] [(0, (.ptr 0 0)), (2, (.int .i64 v2)), (8, (.ptr 1 0)), (9, (.ptr 2 0)), (13, (.sl (l69 v1))), (14, (.int .i64 ((l69 v1).length : Int))), (15, (.int .i64 v15)), (50, (.bool (!v48)))] [.cells [(.int .i64 v17), (.int .i64 v18)], .cells [(.int .i64 v19), (.str v20), (.str v21), (.sl (l57 v22)), (.sl (l69 v23)), (.sl (l69 v24)), (.int .i64 v25)], .cells [(.bool v26), (.bool v27), (.int .i64 v28), (.bool v29), (.bool v30)]] (by kernel_rfl) ?_
                          refine AR_op (by kernel_rfl) (OpJ_boolK hT (q := (!v48)) (by kernel_rfl) h12) ?_
                          refine AR_many hT 4 [0, 2, 8, 9, 13, 14, 15, 51, 53, 55] [(0, (.ptr 0 0)), (2, (.int .i64 v2)), (8, (.ptr 1 0)), (9, (.ptr 2 0)), (13, (.sl (l69 v1))), (14, (.int .i64 ((l69 v1).length : Int))), (15, (.int .i64 v15)), (51, (.bool false)), (53, (.str v21)), (55, (.bool v27))] [.cells [(.int .i64 v17), (.int .i64 v18)], .cells [(.int .i64 v19), (.str v20), (.str v21), (.sl (l57 v22)), (.sl (l69 v23)), (.sl (l69 v24)), (.int .i64 v25)], .cells [(.bool v26), (.bool v27), (.int .i64 v28), (.bool v29), (.bool v30)]] (by kernel_rfl) ?_
                          refine AR_op (by kernel_rfl) (OpJ_callK (g := 120) (args := [(.str v21), (.bool v27)]) (by kernel_rfl) Go.Proofs.Try.func120 (by kernel_rfl) (by kernel_rfl) (Fn_pure (F120_ok k6 v21 v27 v49 h13) (by simp [AV.low, AV.lows, AObj.low]) (by simp [AV.low, AV.lows, AObj.low]))) ?_
                          refine AR_many hT 2 [0, 2, 8, 9, 13, 14, 15, 58] [(0, (.ptr 0 0)), (2, (.int .i64 v2)), (8, (.ptr 1 0)), (9, (.ptr 2 0)), (13, (.sl (l69 v1))), (14, (.int .i64 ((l69 v1).length : Int))), (15, (.int .i64 v15)), (58, (.bool (!v49)))] [.cells [(.int .i64 v17), (.int .i64 v18)], .cells [(.int .i64 v19), (.str v20), (.str v21), (.sl (l57 v22)), (.sl (l69 v23)), (.sl (l69 v24)), (.int .i64 v25)], .cells [(.bool v26), (.bool v27), (.int .i64 v28), (.bool v29), (.bool v30)]] (by kernel_rfl) ?_
                          refine AR_op (by kernel_rfl) (OpJ_boolK hT (q := (!v49)) (by kernel_rfl) h14) ?_
                          refine AR_many hT 7 [0, 2, 8, 9, 13, 14, 15, 66] [(0, (.ptr 0 0)), (2, (.int .i64 v2)), (8, (.ptr 1 0)), (9, (.ptr 2 0)), (13, (.sl (l69 v1))), (14, (.int .i64 ((l69 v1).length : Int))), (15, (.int .i64 v15)), (66, (.bool (((l57 v22).length : Int) != v28)))] [.cells [(.int .i64 v17), (.int .i64 v18)], .cells [(.int .i64 v19), (.str v20), (.str v21), (.sl (l57 v22)), (.sl (l69 v23)), (.sl (l69 v24)), (.int .i64 v25)], .cells [(.bool v26), (.bool v27), (.int .i64 v28), (.bool v29), (.bool v30)]] (by kernel_rfl) ?_
                          refine AR_op (by kernel_rfl) (OpJ_boolK hT (q := (((l57 v22).length : Int) != v28)) (by kernel_rfl) h15) ?_
                          refine AR_many hT 3 [0, 2, 8, 9, 13, 14, 15, 67, 70] [(0, (.ptr 0 0)), (2, (.int .i64 v2)), (8, (.ptr 1 0)), (9, (.ptr 2 0)), (13, (.sl (l69 v1))), (14, (.int .i64 ((l69 v1).length : Int))), (15, (.int .i64 v15)), (67, (.bool false)), (70, (.bool (!v29)))] [.cells [(.int .i64 v17), (.int .i64 v18)], .cells [(.int .i64 v19), (.str v20), (.str v21), (.sl (l57 v22)), (.sl (l69 v23)), (.sl (l69 v24)), (.int .i64 v25)], .cells [(.bool v26), (.bool v27), (.int .i64 v28), (.bool v29), (.bool v30)]] (by kernel_rfl) ?_
                          refine AR_op (by kernel_rfl) (OpJ_boolK hT (q := (!v29)) (by kernel_rfl) h16) ?_
                          refine AR_many hT 10 [0, 2, 8, 13, 14, 15, 78, 81] [(0, (.ptr 0 0)), (2, (.int .i64 v2)), (8, (.ptr 1 0)), (13, (.sl (l69 v1))), (14, (.int .i64 ((l69 v1).length : Int))), (15, (.int .i64 v15)), (78, (.bool false)), (81, (.bool (!v30)))] [.cells [(.int .i64 v17), (.int .i64 v18)], .cells [(.int .i64 v19), (.str v20), (.str v21), (.sl (l57 v22)), (.sl (l69 v23)), (.sl (l69 v24)), (.int .i64 v25)], .cells [(.bool v26), (.bool v27), (.int .i64 v28), (.bool v29), (.bool v30)]] (by kernel_rfl) ?_
                          refine AR_op (by kernel_rfl) (OpJ_boolK hT (q := (!v30)) (by kernel_rfl) h19) ?_
                          refine AR_many hT 6 [0, 2, 8, 13, 14, 15, 88] [(0, (.ptr 0 0)), (2, (.int .i64 v2)), (8, (.ptr 1 0)), (13, (.sl (l69 v1))), (14, (.int .i64 ((l69 v1).length : Int))), (15, (.int .i64 v15)), (88, (.bool (decide (((l69 v24).length : Int) > 0))))] [.cells [(.int .i64 v17), (.int .i64 v18)], .cells [(.int .i64 v19), (.str v20), (.str v21), (.sl (l57 v22)), (.sl (l69 v23)), (.sl (l69 v24)), (.int .i64 v25)], .cells [(.bool v26), (.bool v27), (.int .i64 v28), (.bool v29), (.bool v30)]] (by kernel_rfl) ?_
                          refine AR_fin (by kernel_rfl) ?_
                          refine AE_keep [0, 2, 8, 13, 14, 15, 88] (env' := [(0, (.ptr 0 0)), (2, (.int .i64 v2)), (8, (.ptr 1 0)), (13, (.sl (l69 v1))), (14, (.int .i64 ((l69 v1).length : Int))), (15, (.int .i64 v15)), (88, (.bool (decide (((l69 v24).length : Int) > 0))))]) (by kernel_rfl) ?_
                          exact AE_done ⟨v15, (decide (((l69 v24).length : Int) > 0)), v17, v18, v19, v20, v21, v22, v23, v24, v25, v26, v27, v28, v29, v30, rfl, rfl, k6, Nat.le_refl _, h⟩
                        · replace h := bifF h19 h
                          refine AW_reg ?_
                          refine AR_many hT 2 [0, 2, 8, 9, 13, 14, 15, 42] [(0, (.ptr 0 0)), (2, (.int .i64 v2)), (8, (.ptr 1 0)), (9, (.ptr 2 0)), (13, (.sl (l69 v1))), (14, (.int .i64 ((l69 v1).length : Int))), (15, (.int .i64 v15)), (42, (.bool (!v31)))] [.cells [(.int .i64 v17), (.int .i64 v18)], .cells [(.int .i64 v19), (.str v20), (.str v21), (.sl (l57 v22)), (.sl (l69 v23)), (.sl (l69 v24)), (.int .i64 v25)], .cells [(.bool v26), (.bool v27), (.int .i64 v28), (.bool v29), (.bool v30)]] (by kernel_rfl) ?_
                          refine AR_op (by kernel_rfl) (OpJ_boolK hT (q := (!v31)) (by kernel_rfl) h10) ?_
                          refine AR_many hT 4 [0, 2, 8, 9, 13, 14, 15, 43, 45, 47] [(0, (.ptr 0 0)), (2, (.int .i64 v2)), (8, (.ptr 1 0)), (9, (.ptr 2 0)), (13, (.sl (l69 v1))), (14, (.int .i64 ((l69 v1).length : Int))), (15, (.int .i64 v15)), (43, (.bool false)), (45, (.str v20)), (47, (.bool v26))] [.cells [(.int .i64 v17), (.int .i64 v18)], .cells [(.int .i64 v19), (.str v20), (.str v21), (.sl (l57 v22)), (.sl (l69 v23)), (.sl (l69 v24)), (.int .i64 v25)], .cells [(.bool v26), (.bool v27), (.int .i64 v28), (.bool v29), (.bool v30)]] (by kernel_rfl) ?_
                          refine AR_op (by kernel_rfl) (OpJ_callK (g := 120) (args := [(.str v20), (.bool v26)]) (by kernel_rfl) Go.Proofs.Try.func120 (by kernel_rfl) (by kernel_rfl) (Fn_pure (F120_ok k6 v20 v26 v48 h11) (by simp [AV.low, AV.lows, AObj.low]) (by simp [AV.low, AV.lows, AObj.low]))) ?_
                          refine AR_many hT 2 [0, 2, 8, 9, 13, 14, 15, 50] [(0, (.ptr 0 0)), (2, (.int .i64 v2)), (8, (.ptr 1 0)), (9, (.ptr 2 0)), (13, (.sl (l69 v1))), (14, (.int .i64 ((l69 v1).length : Int))), (15, (.int .i64 v15)), (50, (.bool (!v48)))] [.cells [(.int .i64 v17), (.int .i64 v18)], .cells [(.int .i64 v19), (.str v20), (.str v21), (.sl (l57 v22)), (.sl (l69 v23)), (.sl (l69 v24)), (.int .i64 v25)], .cells [(.bool v26), (.bool v27), (.int .i64 v28), (.bool v29), (.bool v30)]] (by kernel_rfl) ?_
                          refine AR_op (by kernel_rfl) (OpJ_boolK hT (q := (!v48)) (by kernel_rfl) h12) ?_
                          refine AR_many hT 4 [0, 2, 8, 9, 13, 14, 15, 51, 53, 55] [(0, (.ptr 0 0)), (2, (.int .i64 v2)), (8, (.ptr 1 0)), (9, (.ptr 2 0)), (13, (.sl (l69 v1))), (14, (.int .i64 ((l69 v1).length : Int))), (15, (.int .i64 v15)), (51, (.bool false)), (53, (.str v21)), (55, (.bool v27))] [.cells [(.int .i64 v17), (.int .i64 v18)], .cells [(.int .i64 v19), (.str v20), (.str v21), (.sl (l57 v22)), (.sl (l69 v23)), (.sl (l69 v24)), (.int .i64 v25)], .cells [(.bool v26), (.bool v27), (.int .i64 v28), (.bool v29), (.bool v30)]] (by kernel_rfl) ?_
                          refine AR_op (by kernel_rfl) (OpJ_callK (g := 120) (args := [(.str v21), (.bool v27)]) (by kernel_rfl) Go.Proofs.Try.func120 (by kernel_rfl) (by kernel_rfl) (Fn_pure (F120_ok k6 v21 v27 v49 h13) (by simp [AV.low, AV.lows, AObj.low]) (by simp [AV.low, AV.lows, AObj.low]))) ?_
                          refine AR_many hT 2 [0, 2, 8, 9, 13, 14, 15, 58] [(0, (.ptr 0 0)), (2, (.int .i64 v2)), (8, (.ptr 1 0)), (9, (.ptr 2 0)), (13, (.sl (l69 v1))), (14, (.int .i64 ((l69 v1).length : Int))), (15, (.int .i64 v15)), (58, (.bool (!v49)))] [.cells [(.int .i64 v17), (.int .i64 v18)], .cells [(.int .i64 v19), (.str v20), (.str v21), (.sl (l57 v22)), (.sl (l69 v23)), (.sl (l69 v24)), (.int .i64 v25)], .cells [(.bool v26), (.bool v27), (.int .i64 v28), (.bool v29), (.bool v30)]] (by kernel_rfl) ?_
                          refine AR_op (by kernel_rfl) (OpJ_boolK hT (q := (!v49)) (by kernel_rfl) h14) ?_
                          refine AR_many hT 7 [0, 2, 8, 9, 13, 14, 15, 66] [(0, (.ptr 0 0)), (2, (.int .i64 v2)), (8, (.ptr 1 0)), (9, (.ptr 2 0)), (13, (.sl (l69 v1))), (14, (.int .i64 ((l69 v1).length : Int))), (15, (.int .i64 v15)), (66, (.bool (((l57 v22).length : Int) != v28)))] [.cells [(.int .i64 v17), (.int .i64 v18)], .cells [(.int .i64 v19), (.str v20), (.str v21), (.sl (l57 v22)), (.sl (l69 v23)), (.sl (l69 v24)), (.int .i64 v25)], .cells [(.bool v26), (.bool v27), (.int .i64 v28), (.bool v29), (.bool v30)]] (by kernel_rfl) ?_
                          refine AR_op (by kernel_rfl) (OpJ_boolK hT (q := (((l57 v22).length : Int) != v28)) (by kernel_rfl) h15) ?_
                          refine AR_many hT 3 [0, 2, 8, 9, 13, 14, 15, 67, 70] [(0, (.ptr 0 0)), (2, (.int .i64 v2)), (8, (.ptr 1 0)), (9, (.ptr 2 0)), (13, (.sl (l69 v1))), (14, (.int .i64 ((l69 v1).length : Int))), (15, (.int .i64 v15)), (67, (.bool false)), (70, (.bool (!v29)))] [.cells [(.int .i64 v17), (.int .i64 v18)], .cells [(.int .i64 v19), (.str v20), (.str v21), (.sl (l57 v22)), (.sl (l69 v23)), (.sl (l69 v24)), (.int .i64 v25)], .cells [(.bool v26), (.bool v27), (.int .i64 v28), (.bool v29), (.bool v30)]] (by kernel_rfl) ?_
                          refine AR_op (by kernel_rfl) (OpJ_boolK hT (q := (!v29)) (by kernel_rfl) h16) ?_
                          refine AR_many hT 10 [0, 2, 8, 13, 14, 15, 78, 81] [(0, (.ptr 0 0)), (2, (.int .i64 v2)), (8, (.ptr 1 0)), (13, (.sl (l69 v1))), (14, (.int .i64 ((l69 v1).length : Int))), (15, (.int .i64 v15)), (78, (.bool false)), (81, (.bool (!v30)))] [.cells [(.int .i64 v17), (.int .i64 v18)], .cells [(.int .i64 v19), (.str v20), (.str v21), (.sl (l57 v22)), (.sl (l69 v23)), (.sl (l69 v24)), (.int .i64 v25)], .cells [(.bool v26), (.bool v27), (.int .i64 v28), (.bool v29), (.bool v30)]] (by kernel_rfl) ?_
                          refine AR_op (by kernel_rfl) (OpJ_boolK hT (q := (!v30)) (by kernel_rfl) h19) ?_
                          refine AR_many hT 6 [0, 2, 8, 13, 14, 15, 88] [(0, (.ptr 0 0)), (2, (.int .i64 v2)), (8, (.ptr 1 0)), (13, (.sl (l69 v1))), (14, (.int .i64 ((l69 v1).length : Int))), (15, (.int .i64 v15)), (88, (.bool false))] [.cells [(.int .i64 v17), (.int .i64 v18)], .cells [(.int .i64 v19), (.str v20), (.str v21), (.sl (l57 v22)), (.sl (l69 v23)), (.sl (l69 v24)), (.int .i64 v25)], .cells [(.bool v26), (.bool v27), (.int .i64 v28), (.bool v29), (.bool v30)]] (by kernel_rfl) ?_
                          refine AR_fin (by kernel_rfl) ?_
                          refine AE_keep [0, 2, 8, 13, 14, 15, 88] (env' := [(0, (.ptr 0 0)), (2, (.int .i64 v2)), (8, (.ptr 1 0)), (13, (.sl (l69 v1))), (14, (.int .i64 ((l69 v1).length : Int))), (15, (.int .i64 v15)), (88, (.bool false))]) (by kernel_rfl) ?_
                          exact AE_done ⟨v15, false, v17, v18, v19, v20, v21, v22, v23, v24, v25, v26, v27, v28, v29, v30, rfl, rfl, k6, Nat.le_refl _, h⟩
            · rintro _ _ ⟨v32, v33, v34, v35, v36, v37, v38, v39, v40, v41, v42, v43, v44, v45, v46, v47, rfl, rfl, n, hn, h⟩
              obtain _ | k20 := n
              · rw [F76_j2] at h; cases h
              have h21 : k20 < (k + 1) := by omega
              rw [F76_j2] at h
              rcases Bool.eq_false_or_eq_true v33 with h22 | h22
              · replace h := bifT h22 h
                refine AW_ifT (q := v33) (by kernel_rfl) h22 ?_
                refine AW_seq ?_
                refine AW_reg ?_
                refine AR_many hT 1 [6] [(6, (.bool false))] [.cells [(.int .i64 v34), (.int .i64 v35)], .cells [(.int .i64 v36), (.str v37), (.str v38), (.sl (l57 v39)), (.sl (l69 v40)), (.sl (l69 v41)), (.int .i64 v42)], .cells [(.bool v43), (.bool v44), (.int .i64 v45), (.bool v46), (.bool v47)]] (by kernel_rfl) ?_
                refine AR_fin (by kernel_rfl) ?_
                refine AE_seqN ?_
                refine AE_ret ?_
                refine AE_seqR ?_
                refine AE_blkR ?_
                refine AE_seqR ?_
                refine AE_seqR ?_
                refine AE_blkR ?_
                refine AE_seqR ?_
                refine AE_keep [6] (env' := [(6, (.bool false))]) (by kernel_rfl) ?_
                simp only [Option.some.injEq, Prod.mk.injEq] at h
                obtain ⟨rfl, rfl, rfl⟩ := h
                exact AE_done ⟨trivial, by kernel_rfl, by kernel_rfl, by simp [AV.low, AV.lows, AObj.low], by simp [AV.low, AV.lows, AObj.low]⟩
              · replace h := bifF h22 h
                refine AW_ifF (q := v33) (by kernel_rfl) h22 ?_
                refine AE_skip ?_
                refine AE_seqN ?_
                refine AW_seq ?_
                refine AW_seq ?_
                refine AW_reg ?_
                refine AR_many hT 4 [0, 2, 8, 13, 14, 15, 90, 91, 92] [(0, (.ptr 0 0)), (2, (.int .i64 v2)), (8, (.ptr 1 0)), (13, (.sl (l69 v1))), (14, (.int .i64 ((l69 v1).length : Int))), (15, (.int .i64 v32)), (90, (.sl (l57 v39))), (91, (.int .i64 ((l57 v39).length : Int))), (92, (.int .i64 0))] [.cells [(.int .i64 v34), (.int .i64 v35)], .cells [(.int .i64 v36), (.str v37), (.str v38), (.sl (l57 v39)), (.sl (l69 v40)), (.sl (l69 v41)), (.int .i64 v42)], .cells [(.bool v43), (.bool v44), (.int .i64 v45), (.bool v46), (.bool v47)]] (by kernel_rfl) ?_
                refine AR_fin (by kernel_rfl) ?_
                refine AE_seqN ?_
                refine AW_block ?_
                refine AW_keep [0, 2, 8, 13, 14, 15, 90, 91, 92] (env' := [(0, (.ptr 0 0)), (2, (.int .i64 v2)), (8, (.ptr 1 0)), (13, (.sl (l69 v1))), (14, (.int .i64 ((l69 v1).length : Int))), (15, (.int .i64 v32)), (90, (.sl (l57 v39))), (91, (.int .i64 ((l57 v39).length : Int))), (92, (.int .i64 0))]) (by kernel_rfl) ?_
                refine AW_loop (fun n env L => n ≤ k20 ∧ ∃ (v50 : Int) (v51 : Int), env = [(0, (.ptr 0 0)), (2, (.int .i64 v2)), (8, (.ptr 1 0)), (13, (.sl (l69 v1))), (14, (.int .i64 ((l69 v1).length : Int))), (15, (.int .i64 v32)), (90, (.sl (l57 v39))), (91, (.int .i64 ((l57 v39).length : Int))), (92, (.int .i64 v50))] ∧ L = [.cells [(.int .i64 v34), (.int .i64 v51)], .cells [(.int .i64 v36), (.str v37), (.str v38), (.sl (l57 v39)), (.sl (l69 v40)), (.sl (l69 v41)), (.int .i64 v42)], .cells [(.bool v43), (.bool v44), (.int .i64 v45), (.bool v46), (.bool v47)]] ∧ F76_l3 n v2 v1 v32 v39 v34 v40 v41 v50 v51 = some (r1, r2, r3)) k20 ⟨Nat.le_refl _, 0, v35, rfl, rfl, h⟩ ?_
                rintro n _ _ ⟨hn, v50, v51, rfl, rfl, h⟩
                cases n with
                | zero => rw [F76_l3] at h; cases h
                | succ k23 =>
                  have h24 : k23 < (k + 1) := by omega
                  rw [F76_l3] at h
                  refine AW_seq ?_
                  refine AW_reg ?_
                  refine AR_many hT 1 [0, 2, 8, 13, 14, 15, 90, 91, 92, 93] [(0, (.ptr 0 0)), (2, (.int .i64 v2)), (8, (.ptr 1 0)), (13, (.sl (l69 v1))), (14, (.int .i64 ((l69 v1).length : Int))), (15, (.int .i64 v32)), (90, (.sl (l57 v39))), (91, (.int .i64 ((l57 v39).length : Int))), (92, (.int .i64 v50)), (93, (.bool (decide (v50 < ((l57 v39).length : Int)))))] [.cells [(.int .i64 v34), (.int .i64 v51)], .cells [(.int .i64 v36), (.str v37), (.str v38), (.sl (l57 v39)), (.sl (l69 v40)), (.sl (l69 v41)), (.int .i64 v42)], .cells [(.bool v43), (.bool v44), (.int .i64 v45), (.bool v46), (.bool v47)]] (by kernel_rfl) ?_
                  refine AR_fin (by kernel_rfl) ?_
                  refine AE_seqN ?_
                  refine AW_seq ?_
                  rcases Bool.eq_false_or_eq_true (decide (v50 < ((l57 v39).length : Int))) with h25 | h25
                  · replace h := bifT h25 h
                    refine AW_ifT (q := (decide (v50 < ((l57 v39).length : Int)))) (by kernel_rfl) h25 ?_
                    refine AE_skip ?_
                    refine AE_seqN ?_
                    refine AW_seq ?_
                    refine AW_block ?_
                    refine AW_seq ?_
                    obtain ⟨⟨v52, v53, v54, v55, v56, v57⟩, h26, h⟩ := Option.bind_eq_some_iff.mp h
                    try dsimp only at h
                    refine AW_reg ?_
                    refine AR_op (by kernel_rfl) (OpJ_indexK hT (xs := l57 v39) (j := v50) (n := 6) (by kernel_rfl) (i57 h26) (by kernel_rfl)) ?_
                    refine AR_many hT 3 [0, 2, 8, 12, 13, 14, 15, 90, 91, 92] [(0, (.ptr 0 0)), (2, (.int .i64 v2)), (8, (.ptr 1 0)), (12, (.ptr 3 0)), (13, (.sl (l69 v1))), (14, (.int .i64 ((l69 v1).length : Int))), (15, (.int .i64 v32)), (90, (.sl (l57 v39))), (91, (.int .i64 ((l57 v39).length : Int))), (92, (.int .i64 v50))] [.cells [(.int .i64 v34), (.int .i64 v51)], .cells [(.int .i64 v36), (.str v37), (.str v38), (.sl (l57 v39)), (.sl (l69 v40)), (.sl (l69 v41)), (.int .i64 v42)], .cells [(.bool v43), (.bool v44), (.int .i64 v45), (.bool v46), (.bool v47)], .cells [(.int .i64 v52), (.str v53), (.int .i64 v54), (.str v55), (.sl (l57 v56)), (.int .i64 v57)]] (by kernel_rfl) ?_
                    refine AR_fin (by kernel_rfl) ?_
                    refine AE_seqN ?_
                    refine AW_seq ?_
                    obtain ⟨⟨v58, v59⟩, h27, h⟩ := Option.bind_eq_some_iff.mp h
                    try dsimp only at h
                    refine AW_reg ?_
                    refine AR_many hT 2 [0, 2, 8, 13, 14, 15, 90, 91, 92, 96, 97] [(0, (.ptr 0 0)), (2, (.int .i64 v2)), (8, (.ptr 1 0)), (13, (.sl (l69 v1))), (14, (.int .i64 ((l69 v1).length : Int))), (15, (.int .i64 v32)), (90, (.sl (l57 v39))), (91, (.int .i64 ((l57 v39).length : Int))), (92, (.int .i64 v50)), (96, (.ptr 0 0)), (97, (.agg [(.int .i64 v52), (.str v53), (.int .i64 v54), (.str v55), (.sl (l57 v56)), (.int .i64 v57)]))] [.cells [(.int .i64 v34), (.int .i64 v51)], .cells [(.int .i64 v36), (.str v37), (.str v38), (.sl (l57 v39)), (.sl (l69 v40)), (.sl (l69 v41)), (.int .i64 v42)], .cells [(.bool v43), (.bool v44), (.int .i64 v45), (.bool v46), (.bool v47)], .cells [(.int .i64 v52), (.str v53), (.int .i64 v54), (.str v55), (.sl (l57 v56)), (.int .i64 v57)]] (by kernel_rfl) ?_
                    refine AR_op (by kernel_rfl) (OpJ_callK (g := 61) (args := [(.ptr 0 0), (.agg [(.int .i64 v52), (.str v53), (.int .i64 v54), (.str v55), (.sl (l57 v56)), (.int .i64 v57)]), (.int .i64 12)]) (by kernel_rfl) Go.Proofs.Try.func61 (by kernel_rfl) (by kernel_rfl) (Fn_in (L := [.cells [(.int .i64 v34), (.int .i64 v51)], .cells [(.int .i64 v36), (.str v37), (.str v38), (.sl (l57 v39)), (.sl (l69 v40)), (.sl (l69 v41)), (.int .i64 v42)], .cells [(.bool v43), (.bool v44), (.int .i64 v45), (.bool v46), (.bool v47)], .cells [(.int .i64 v52), (.str v53), (.int .i64 v54), (.str v55), (.sl (l57 v56)), (.int .i64 v57)]]) (args' := [(.ptr 0 0), (.agg [(.int .i64 v52), (.str v53), (.int .i64 v54), (.str v55), (.sl (l57 v56)), (.int .i64 v57)]), (.int .i64 12)]) (res' := (.bool v58)) (L'' := [.cells [(.int .i64 v34), (.int .i64 v59)], .cells [(.int .i64 v36), (.str v37), (.str v38), (.sl (l57 v39)), (.sl (l69 v40)), (.sl (l69 v41)), (.int .i64 v42)], .cells [(.bool v43), (.bool v44), (.int .i64 v45), (.bool v46), (.bool v47)], .cells [(.int .i64 v52), (.str v53), (.int .i64 v54), (.str v55), (.sl (l57 v56)), (.int .i64 v57)]]) [0] (F61_ok k23 v52 v53 v54 v55 v56 v57 12 v34 v51 v58 v59 h27) rfl (by decide) ⟨(by simp [AV.ren, AV.rens, AObj.ren, gname]), trivial⟩ (by simp [AV.low, AV.lows, AObj.low]) (by simp [AV.low, AV.lows, AObj.low]) (by kernel_rfl) (by simp [AV.ren, AV.rens, AObj.ren, gname, putBack]) (by simp [AV.ren, AV.rens, AObj.ren, gname, putBack]) (by simp [AV.ren, AV.rens, AObj.ren, gname, putBack]))) ?_
                    refine AR_many hT 1 [0, 2, 8, 13, 14, 15, 90, 91, 92, 99] [(0, (.ptr 0 0)), (2, (.int .i64 v2)), (8, (.ptr 1 0)), (13, (.sl (l69 v1))), (14, (.int .i64 ((l69 v1).length : Int))), (15, (.int .i64 v32)), (90, (.sl (l57 v39))), (91, (.int .i64 ((l57 v39).length : Int))), (92, (.int .i64 v50)), (99, (.bool (!v58)))] [.cells [(.int .i64 v34), (.int .i64 v59)], .cells [(.int .i64 v36), (.str v37), (.str v38), (.sl (l57 v39)), (.sl (l69 v40)), (.sl (l69 v41)), (.int .i64 v42)], .cells [(.bool v43), (.bool v44), (.int .i64 v45), (.bool v46), (.bool v47)], .cells [(.int .i64 v52), (.str v53), (.int .i64 v54), (.str v55), (.sl (l57 v56)), (.int .i64 v57)]] (by kernel_rfl) ?_
                    refine AR_fin (by kernel_rfl) ?_
                    refine AE_seqN ?_
                    rcases Bool.eq_false_or_eq_true (!v58) with h28 | h28
                    · replace h := bifT h28 h
                      refine AW_ifT (q := (!v58)) (by kernel_rfl) h28 ?_
                      refine AW_seq ?_
                      refine AW_reg ?_
                      refine AR_many hT 1 [6] [(6, (.bool false))] [.cells [(.int .i64 v34), (.int .i64 v59)], .cells [(.int .i64 v36), (.str v37), (.str v38), (.sl (l57 v39)), (.sl (l69 v40)), (.sl (l69 v41)), (.int .i64 v42)], .cells [(.bool v43), (.bool v44), (.int .i64 v45), (.bool v46), (.bool v47)], .cells [(.int .i64 v52), (.str v53), (.int .i64 v54), (.str v55), (.sl (l57 v56)), (.int .i64 v57)]] (by kernel_rfl) ?_
                      refine AR_fin (by kernel_rfl) ?_
                      refine AE_seqN ?_
                      refine AE_ret ?_
                      refine AE_blkR ?_
                      refine AE_seqR ?_
                      refine AE_seqR ?_
                      refine AE_blkR ?_
                      refine AE_seqR ?_
                      refine AE_blkR ?_
                      refine AE_seqR ?_
                      refine AE_seqR ?_
                      refine AE_blkR ?_
                      refine AE_seqR ?_
                      refine AE_keep [6] (env' := [(6, (.bool false))]) (by kernel_rfl) ?_
                      simp only [Option.some.injEq, Prod.mk.injEq] at h
                      obtain ⟨rfl, rfl, rfl⟩ := h
                      exact AE_done ⟨trivial, by kernel_rfl, by kernel_rfl, by simp [AV.low, AV.lows, AObj.low], by simp [AV.low, AV.lows, AObj.low]⟩
                    · replace h := bifF h28 h
                      refine AW_ifF (q := (!v58)) (by kernel_rfl) h28 ?_
                      refine AE_skip ?_
                      refine AE_blkN ?_
                      refine AE_seqN ?_
                      refine AW_reg ?_
                      refine AR_many hT 2 [0, 2, 8, 13, 14, 15, 90, 91, 92] [(0, (.ptr 0 0)), (2, (.int .i64 v2)), (8, (.ptr 1 0)), (13, (.sl (l69 v1))), (14, (.int .i64 ((l69 v1).length : Int))), (15, (.int .i64 v32)), (90, (.sl (l57 v39))), (91, (.int .i64 ((l57 v39).length : Int))), (92, (.int .i64 (IntKind.wrap .i64 (v50 + 1))))] [.cells [(.int .i64 v34), (.int .i64 v59)], .cells [(.int .i64 v36), (.str v37), (.str v38), (.sl (l57 v39)), (.sl (l69 v40)), (.sl (l69 v41)), (.int .i64 v42)], .cells [(.bool v43), (.bool v44), (.int .i64 v45), (.bool v46), (.bool v47)], .cells [(.int .i64 v52), (.str v53), (.int .i64 v54), (.str v55), (.sl (l57 v56)), (.int .i64 v57)]] (by kernel_rfl) ?_
                      refine AR_fin (by kernel_rfl) ?_
                      refine AE_keep [0, 2, 8, 13, 14, 15, 90, 91, 92] (env' := [(0, (.ptr 0 0)), (2, (.int .i64 v2)), (8, (.ptr 1 0)), (13, (.sl (l69 v1))), (14, (.int .i64 ((l69 v1).length : Int))), (15, (.int .i64 v32)), (90, (.sl (l57 v39))), (91, (.int .i64 ((l57 v39).length : Int))), (92, (.int .i64 (IntKind.wrap .i64 (v50 + 1))))]) (by kernel_rfl) ?_
                      refine AE_drop 3 (by kernel_rfl) (low_env (by simp [AV.low, AV.lows, AObj.low])) (by simp [AV.low, AV.lows, AObj.low]) (L' := [.cells [(.int .i64 v34), (.int .i64 v59)], .cells [(.int .i64 v36), (.str v37), (.str v38), (.sl (l57 v39)), (.sl (l69 v40)), (.sl (l69 v41)), (.int .i64 v42)], .cells [(.bool v43), (.bool v44), (.int .i64 v45), (.bool v46), (.bool v47)]]) (by kernel_rfl) ?_
                      exact AE_done ⟨k23, by omega, by omega, (IntKind.wrap .i64 (v50 + 1)), v59, rfl, rfl, h⟩
                  · replace h := bifF h25 h
                    refine AW_ifF (q := (decide (v50 < ((l57 v39).length : Int)))) (by kernel_rfl) h25 ?_
                    refine AE_exit ?_
                    refine AE_seqX ?_
                    refine AE_seqX ?_
                    refine AE_blkH ?_
                    refine AE_seqN ?_
                    refine AW_join (fun env L => ∃ (v60 : Int) (v61 : Bool) (v62 : Int) (v63 : Int) (v64 : Int) (v65 : ByteArray) (v66 : ByteArray) (v67 : (List T57)) (v68 : (List T69)) (v69 : (List T69)) (v70 : Int) (v71 : Bool) (v72 : Bool) (v73 : Int) (v74 : Bool) (v75 : Bool), env = [(0, (.ptr 0 0)), (2, (.int .i64 v2)), (13, (.sl (l69 v1))), (14, (.int .i64 ((l69 v1).length : Int))), (15, (.int .i64 v60)), (116, (.bool v61))] ∧ L = [.cells [(.int .i64 v62), (.int .i64 v63)], .cells [(.int .i64 v64), (.str v65), (.str v66), (.sl (l57 v67)), (.sl (l69 v68)), (.sl (l69 v69)), (.int .i64 v70)], .cells [(.bool v71), (.bool v72), (.int .i64 v73), (.bool v74), (.bool v75)]] ∧ ∃ n, n ≤ k23 ∧ F76_j4 n v2 v1 v60 v61 v62 v63 = some (r1, r2, r3)) ?_ ?_
                    · obtain ⟨⟨v76, v77, v78⟩, h29, h⟩ := Option.bind_eq_some_iff.mp h
                      try dsimp only at h
                      rcases Bool.eq_false_or_eq_true (!v76) with h30 | h30
                      · replace h := bifT h30 h
                        refine AW_reg ?_
                        refine AR_many hT 5 [0, 2, 8, 13, 14, 15, 101, 103, 105] [(0, (.ptr 0 0)), (2, (.int .i64 v2)), (8, (.ptr 1 0)), (13, (.sl (l69 v1))), (14, (.int .i64 ((l69 v1).length : Int))), (15, (.int .i64 v32)), (101, (.ptr 0 0)), (103, (.sl (l69 v40))), (105, (.int .i64 (IntKind.wrap .i64 (v2 - 1))))] [.cells [(.int .i64 v34), (.int .i64 v51)], .cells [(.int .i64 v36), (.str v37), (.str v38), (.sl (l57 v39)), (.sl (l69 v40)), (.sl (l69 v41)), (.int .i64 v42)], .cells [(.bool v43), (.bool v44), (.int .i64 v45), (.bool v46), (.bool v47)]] (by kernel_rfl) ?_
                        refine AR_op (by kernel_rfl) (OpJ_callK (g := 76) (args := [(.ptr 0 0), (.sl (l69 v40)), (.int .i64 (IntKind.wrap .i64 (v2 - 1)))]) (by kernel_rfl) Go.Proofs.Try.func76 (by kernel_rfl) (by kernel_rfl) (Fn_in (L := [.cells [(.int .i64 v34), (.int .i64 v51)], .cells [(.int .i64 v36), (.str v37), (.str v38), (.sl (l57 v39)), (.sl (l69 v40)), (.sl (l69 v41)), (.int .i64 v42)], .cells [(.bool v43), (.bool v44), (.int .i64 v45), (.bool v46), (.bool v47)]]) (args' := [(.ptr 0 0), (.sl (l69 v40)), (.int .i64 (IntKind.wrap .i64 (v2 - 1)))]) (res' := (.bool v76)) (L'' := [.cells [(.int .i64 v77), (.int .i64 v78)], .cells [(.int .i64 v36), (.str v37), (.str v38), (.sl (l57 v39)), (.sl (l69 v40)), (.sl (l69 v41)), (.int .i64 v42)], .cells [(.bool v43), (.bool v44), (.int .i64 v45), (.bool v46), (.bool v47)]]) [0] (ih_F76 k23 h24 v40 (IntKind.wrap .i64 (v2 - 1)) v34 v51 v76 v77 v78 h29) rfl (by decide) ⟨(by simp [AV.ren, AV.rens, AObj.ren, gname]), trivial⟩ (by simp [AV.low, AV.lows, AObj.low]) (by simp [AV.low, AV.lows, AObj.low]) (by kernel_rfl) (by simp [AV.ren, AV.rens, AObj.ren, gname, putBack]) (by simp [AV.ren, AV.rens, AObj.ren, gname, putBack]) (by simp [AV.ren, AV.rens, AObj.ren, gname, putBack]))) ?_
                        refine AR_many hT 1 [0, 2, 8, 13, 14, 15, 107] [(0, (.ptr 0 0)), (2, (.int .i64 v2)), (8, (.ptr 1 0)), (13, (.sl (l69 v1))), (14, (.int .i64 ((l69 v1).length : Int))), (15, (.int .i64 v32)), (107, (.bool (!v76)))] [.cells [(.int .i64 v77), (.int .i64 v78)], .cells [(.int .i64 v36), (.str v37), (.str v38), (.sl (l57 v39)), (.sl (l69 v40)), (.sl (l69 v41)), (.int .i64 v42)], .cells [(.bool v43), (.bool v44), (.int .i64 v45), (.bool v46), (.bool v47)]] (by kernel_rfl) ?_
                        refine AR_op (by kernel_rfl) (OpJ_boolK hT (q := (!v76)) (by kernel_rfl) h30) ?_
                        refine AR_many hT 8 [0, 2, 13, 14, 15, 116] [(0, (.ptr 0 0)), (2, (.int .i64 v2)), (13, (.sl (l69 v1))), (14, (.int .i64 ((l69 v1).length : Int))), (15, (.int .i64 v32)), (116, (.bool true))] [.cells [(.int .i64 v77), (.int .i64 v78)], .cells [(.int .i64 v36), (.str v37), (.str v38), (.sl (l57 v39)), (.sl (l69 v40)), (.sl (l69 v41)), (.int .i64 v42)], .cells [(.bool v43), (.bool v44), (.int .i64 v45), (.bool v46), (.bool v47)]] (by kernel_rfl) ?_
                        refine AR_fin (by kernel_rfl) ?_
                        refine AE_keep [0, 2, 13, 14, 15, 116] (env' := [(0, (.ptr 0 0)), (2, (.int .i64 v2)), (13, (.sl (l69 v1))), (14, (.int .i64 ((l69 v1).length : Int))), (15, (.int .i64 v32)), (116, (.bool true))]) (by kernel_rfl) ?_
                        exact AE_done ⟨v32, true, v77, v78, v36, v37, v38, v39, v40, v41, v42, v43, v44, v45, v46, v47, rfl, rfl, k23, Nat.le_refl _, h⟩
                      · replace h := bifF h30 h
                        obtain ⟨⟨v79, v80, v81⟩, h31, h⟩ := Option.bind_eq_some_iff.mp h
                        try dsimp only at h
                        refine AW_reg ?_
                        refine AR_many hT 5 [0, 2, 8, 13, 14, 15, 101, 103, 105] [(0, (.ptr 0 0)), (2, (.int .i64 v2)), (8, (.ptr 1 0)), (13, (.sl (l69 v1))), (14, (.int .i64 ((l69 v1).length : Int))), (15, (.int .i64 v32)), (101, (.ptr 0 0)), (103, (.sl (l69 v40))), (105, (.int .i64 (IntKind.wrap .i64 (v2 - 1))))] [.cells [(.int .i64 v34), (.int .i64 v51)], .cells [(.int .i64 v36), (.str v37), (.str v38), (.sl (l57 v39)), (.sl (l69 v40)), (.sl (l69 v41)), (.int .i64 v42)], .cells [(.bool v43), (.bool v44), (.int .i64 v45), (.bool v46), (.bool v47)]] (by kernel_rfl) ?_
                        refine AR_op (by kernel_rfl) (OpJ_callK (g := 76) (args := [(.ptr 0 0), (.sl (l69 v40)), (.int .i64 (IntKind.wrap .i64 (v2 - 1)))]) (by kernel_rfl) Go.Proofs.Try.func76 (by kernel_rfl) (by kernel_rfl) (Fn_in (L := [.cells [(.int .i64 v34), (.int .i64 v51)], .cells [(.int .i64 v36), (.str v37), (.str v38), (.sl (l57 v39)), (.sl (l69 v40)), (.sl (l69 v41)), (.int .i64 v42)], .cells [(.bool v43), (.bool v44), (.int .i64 v45), (.bool v46), (.bool v47)]]) (args' := [(.ptr 0 0), (.sl (l69 v40)), (.int .i64 (IntKind.wrap .i64 (v2 - 1)))]) (res' := (.bool v76)) (L'' := [.cells [(.int .i64 v77), (.int .i64 v78)], .cells [(.int .i64 v36), (.str v37), (.str v38), (.sl (l57 v39)), (.sl (l69 v40)), (.sl (l69 v41)), (.int .i64 v42)], .cells [(.bool v43), (.bool v44), (.int .i64 v45), (.bool v46), (.bool v47)]]) [0] (ih_F76 k23 h24 v40 (IntKind.wrap .i64 (v2 - 1)) v34 v51 v76 v77 v78 h29) rfl (by decide) ⟨(by simp [AV.ren, AV.rens, AObj.ren, gname]), trivial⟩ (by simp [AV.low, AV.lows, AObj.low]) (by simp [AV.low, AV.lows, AObj.low]) (by kernel_rfl) (by simp [AV.ren, AV.rens, AObj.ren, gname, putBack]) (by simp [AV.ren, AV.rens, AObj.ren, gname, putBack]) (by simp [AV.ren, AV.rens, AObj.ren, gname, putBack]))) ?_
                        refine AR_many hT 1 [0, 2, 8, 13, 14, 15, 107] [(0, (.ptr 0 0)), (2, (.int .i64 v2)), (8, (.ptr 1 0)), (13, (.sl (l69 v1))), (14, (.int .i64 ((l69 v1).length : Int))), (15, (.int .i64 v32)), (107, (.bool (!v76)))] [.cells [(.int .i64 v77), (.int .i64 v78)], .cells [(.int .i64 v36), (.str v37), (.str v38), (.sl (l57 v39)), (.sl (l69 v40)), (.sl (l69 v41)), (.int .i64 v42)], .cells [(.bool v43), (.bool v44), (.int .i64 v45), (.bool v46), (.bool v47)]] (by kernel_rfl) ?_
                        refine AR_op (by kernel_rfl) (OpJ_boolK hT (q := (!v76)) (by kernel_rfl) h30) ?_
                        refine AR_many hT 5 [0, 2, 13, 14, 15, 108, 109, 111, 113] [(0, (.ptr 0 0)), (2, (.int .i64 v2)), (13, (.sl (l69 v1))), (14, (.int .i64 ((l69 v1).length : Int))), (15, (.int .i64 v32)), (108, (.bool false)), (109, (.ptr 0 0)), (111, (.sl (l69 v41))), (113, (.int .i64 (IntKind.wrap .i64 (v2 - 1))))] [.cells [(.int .i64 v77), (.int .i64 v78)], .cells [(.int .i64 v36), (.str v37), (.str v38), (.sl (l57 v39)), (.sl (l69 v40)), (.sl (l69 v41)), (.int .i64 v42)], .cells [(.bool v43), (.bool v44), (.int .i64 v45), (.bool v46), (.bool v47)]] (by kernel_rfl) ?_
                        refine AR_op (by kernel_rfl) (OpJ_callK (g := 76) (args := [(.ptr 0 0), (.sl (l69 v41)), (.int .i64 (IntKind.wrap .i64 (v2 - 1)))]) (by kernel_rfl) Go.Proofs.Try.func76 (by kernel_rfl) (by kernel_rfl) (Fn_in (L := [.cells [(.int .i64 v77), (.int .i64 v78)], .cells [(.int .i64 v36), (.str v37), (.str v38), (.sl (l57 v39)), (.sl (l69 v40)), (.sl (l69 v41)), (.int .i64 v42)], .cells [(.bool v43), (.bool v44), (.int .i64 v45), (.bool v46), (.bool v47)]]) (args' := [(.ptr 0 0), (.sl (l69 v41)), (.int .i64 (IntKind.wrap .i64 (v2 - 1)))]) (res' := (.bool v79)) (L'' := [.cells [(.int .i64 v80), (.int .i64 v81)], .cells [(.int .i64 v36), (.str v37), (.str v38), (.sl (l57 v39)), (.sl (l69 v40)), (.sl (l69 v41)), (.int .i64 v42)], .cells [(.bool v43), (.bool v44), (.int .i64 v45), (.bool v46), (.bool v47)]]) [0] (ih_F76 k23 h24 v41 (IntKind.wrap .i64 (v2 - 1)) v77 v78 v79 v80 v81 h31) rfl (by decide) ⟨(by simp [AV.ren, AV.rens, AObj.ren, gname]), trivial⟩ (by simp [AV.low, AV.lows, AObj.low]) (by simp [AV.low, AV.lows, AObj.low]) (by kernel_rfl) (by simp [AV.ren, AV.rens, AObj.ren, gname, putBack]) (by simp [AV.ren, AV.rens, AObj.ren, gname, putBack]) (by simp [AV.ren, AV.rens, AObj.ren, gname, putBack]))) ?_
                        refine AR_many hT 2 [0, 2, 13, 14, 15, 116] [(0, (.ptr 0 0)), (2, (.int .i64 v2)), (13, (.sl (l69 v1))), (14, (.int .i64 ((l69 v1).length : Int))), (15, (.int .i64 v32)), (116, (.bool (!v79)))] [.cells [(.int .i64 v80), (.int .i64 v81)], .cells [(.int .i64 v36), (.str v37), (.str v38), (.sl (l57 v39)), (.sl (l69 v40)), (.sl (l69 v41)), (.int .i64 v42)], .cells [(.bool v43), (.bool v44), (.int .i64 v45), (.bool v46), (.bool v47)]] (by kernel_rfl) ?_
                        refine AR_fin (by kernel_rfl) ?_
                        refine AE_keep [0, 2, 13, 14, 15, 116] (env' := [(0, (.ptr 0 0)), (2, (.int .i64 v2)), (13, (.sl (l69 v1))), (14, (.int .i64 ((l69 v1).length : Int))), (15, (.int .i64 v32)), (116, (.bool (!v79)))]) (by kernel_rfl) ?_
                        exact AE_done ⟨v32, (!v79), v80, v81, v36, v37, v38, v39, v40, v41, v42, v43, v44, v45, v46, v47, rfl, rfl, k23, Nat.le_refl _, h⟩
                    · rintro _ _ ⟨v60, v61, v62, v63, v64, v65, v66, v67, v68, v69, v70, v71, v72, v73, v74, v75, rfl, rfl, n, hn, h⟩
                      obtain _ | k32 := n
                      · rw [F76_j4] at h; cases h
                      have h33 : k32 < (k + 1) := by omega
                      rw [F76_j4] at h
                      rcases Bool.eq_false_or_eq_true v61 with h34 | h34
                      · replace h := bifT h34 h
                        refine AW_ifT (q := v61) (by kernel_rfl) h34 ?_
                        refine AW_seq ?_
                        refine AW_reg ?_
                        refine AR_many hT 1 [6] [(6, (.bool false))] [.cells [(.int .i64 v62), (.int .i64 v63)], .cells [(.int .i64 v64), (.str v65), (.str v66), (.sl (l57 v67)), (.sl (l69 v68)), (.sl (l69 v69)), (.int .i64 v70)], .cells [(.bool v71), (.bool v72), (.int .i64 v73), (.bool v74), (.bool v75)]] (by kernel_rfl) ?_
                        refine AR_fin (by kernel_rfl) ?_
                        refine AE_seqN ?_
                        refine AE_ret ?_
                        refine AE_blkR ?_
                        refine AE_seqR ?_
                        refine AE_seqR ?_
                        refine AE_blkR ?_
                        refine AE_seqR ?_
                        refine AE_keep [6] (env' := [(6, (.bool false))]) (by kernel_rfl) ?_
                        simp only [Option.some.injEq, Prod.mk.injEq] at h
                        obtain ⟨rfl, rfl, rfl⟩ := h
                        exact AE_done ⟨trivial, by kernel_rfl, by kernel_rfl, by simp [AV.low, AV.lows, AObj.low], by simp [AV.low, AV.lows, AObj.low]⟩
                      · replace h := bifF h34 h
                        refine AW_ifF (q := v61) (by kernel_rfl) h34 ?_
                        refine AE_skip ?_
                        refine AE_blkN ?_
                        refine AE_seqN ?_
                        refine AW_reg ?_
                        refine AR_many hT 2 [0, 2, 13, 14, 15] [(0, (.ptr 0 0)), (2, (.int .i64 v2)), (13, (.sl (l69 v1))), (14, (.int .i64 ((l69 v1).length : Int))), (15, (.int .i64 (IntKind.wrap .i64 (v60 + 1))))] [.cells [(.int .i64 v62), (.int .i64 v63)], .cells [(.int .i64 v64), (.str v65), (.str v66), (.sl (l57 v67)), (.sl (l69 v68)), (.sl (l69 v69)), (.int .i64 v70)], .cells [(.bool v71), (.bool v72), (.int .i64 v73), (.bool v74), (.bool v75)]] (by kernel_rfl) ?_
                        refine AR_fin (by kernel_rfl) ?_
                        refine AE_keep [0, 2, 13, 14, 15] (env' := [(0, (.ptr 0 0)), (2, (.int .i64 v2)), (13, (.sl (l69 v1))), (14, (.int .i64 ((l69 v1).length : Int))), (15, (.int .i64 (IntKind.wrap .i64 (v60 + 1))))]) (by kernel_rfl) ?_
                        refine AE_drop 1 (by kernel_rfl) (low_env (by simp [AV.low, AV.lows, AObj.low])) (by simp [AV.low, AV.lows, AObj.low]) (L' := [.cells [(.int .i64 v62), (.int .i64 v63)]]) (by kernel_rfl) ?_
                        exact AE_done ⟨k32, by omega, by omega, (IntKind.wrap .i64 (v60 + 1)), v62, v63, rfl, rfl, h⟩
      · replace h := bifF h3 h
        refine AW_ifF (q := (decide (v5 < ((l69 v1).length : Int)))) (by kernel_rfl) h3 ?_
        refine AE_exit ?_
        refine AE_seqX ?_
        refine AE_seqX ?_
        refine AE_blkH ?_
        refine AE_seqN ?_
        refine AW_seq ?_
        refine AW_reg ?_
        refine AR_many hT 1 [6] [(6, (.bool true))] [.cells [(.int .i64 v6), (.int .i64 v7)]] (by kernel_rfl) ?_
        refine AR_fin (by kernel_rfl) ?_
        refine AE_seqN ?_
        refine AE_ret ?_
        refine AE_keep [6] (env' := [(6, (.bool true))]) (by kernel_rfl) ?_
        simp only [Option.some.injEq, Prod.mk.injEq] at h
        obtain ⟨rfl, rfl, rfl⟩ := h
        exact AE_done ⟨trivial, by kernel_rfl, by kernel_rfl, by simp [AV.low, AV.lows, AObj.low], by simp [AV.low, AV.lows, AObj.low]⟩

theorem F76_all (K0 : Nat) : (∀ (v1 : (List T69)) (v2 : Int) (v3 : Int) (v4 : Int) (r1 : Bool) (r2 : Int) (r3 : Int), F76 K0 v1 v2 v3 v4 = some (r1, r2, r3) → Fn prog 76 [(.ptr 0 0), (.sl (l69 v1)), (.int .i64 v2)] [.cells [(.int .i64 v3), (.int .i64 v4)]] (.bool r1) [.cells [(.int .i64 r2), (.int .i64 r3)]]) := by
  induction K0 using Nat.strongRecOn with
  | ind K0 ih => exact F76_step K0 (fun k hk => (ih k hk))

theorem F76_ok (K0 : Nat) : ∀ (v1 : (List T69)) (v2 : Int) (v3 : Int) (v4 : Int) (r1 : Bool) (r2 : Int) (r3 : Int), F76 K0 v1 v2 v3 v4 = some (r1, r2, r3) → Fn prog 76 [(.ptr 0 0), (.sl (l69 v1)), (.int .i64 v2)] [.cells [(.int .i64 v3), (.int .i64 v4)]] (.bool r1) [.cells [(.int .i64 r2), (.int .i64 r3)]] := (F76_all K0)
end Go.Vm
