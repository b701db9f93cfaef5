/- Printed by gen.py: functions of the program as Lean functions, and that they do what these say. -/
import Derived.Test.YtafpcogpabnjmaaWf0
set_option linter.unusedVariables false
set_option linter.unusedSimpArgs false
set_option linter.unusedSectionVars false
set_option maxRecDepth 20000
namespace Go.Vm
mutual
def F37_j2 : Nat → (List T34) → Int → Bool → Int → Int → Option (Bool × Int × Int)
  | 0, _, _, _, _, _ => none
  | k17 + 1, v3, v12, v13, v14, v15 =>
    (bif v13 then
      some (false, v14, v15)
    else
      F37_l1 k17 v3 (IntKind.wrap .i64 (v12 + 1)) v14 v15)
def F37_l1 : Nat → (List T34) → Int → Int → Int → Option (Bool × Int × Int)
  | 0, _, _, _, _ => none
  | k10 + 1, v3, v6, v7, v8 =>
    (bif (decide (v6 < ((l34 v3).length : Int))) then
      ((idx v3 v6).bind fun ⟨v9, v10, v11⟩ =>
        ((F75 k10 v9).bind fun v19 =>
          (bif (!v19) then
            F37_j2 k10 v3 v6 true v7 v8
          else
            ((F76 k10 v10 12 v7 v8).bind fun ⟨v20, v21, v22⟩ =>
              F37_j2 k10 v3 v6 (!v20) v21 v22))))
    else
      some (true, v7, v8))
end

def F37_j0 (k5 : Nat) (v2 : (List T76)) (v3 : (List T34)) (v4 : Bool) : Option (Bool × Int × Int) :=
  (bif v4 then
    some (false, 0, 0)
  else
    ((F72 k5 v2).bind fun v5 =>
      (bif v5 then
        some (false, 0, 0)
      else
        F37_l1 k5 v3 0 0 0)))

def F37 (k : Nat) (v1 : Int) (v2 : (List T76)) (v3 : (List T34)) : Option (Bool × Int × Int) :=
  (bif (decide (v1 < 0)) then
    F37_j0 k v2 v3 true
  else
    (bif (decide (v1 > 65535)) then
      F37_j0 k v2 v3 true
    else
      (bif (decide (((l76 v2).length : Int) > 12)) then
        F37_j0 k v2 v3 true
      else
        (bif (decide (((l34 v3).length : Int) < 1)) then
          F37_j0 k v2 v3 true
        else
          F37_j0 k v2 v3 (decide (((l34 v3).length : Int) > 6))))))

theorem F37_ok (k : Nat) : ∀ (v1 : Int) (v2 : (List T76)) (v3 : (List T34)) (r1 : Bool) (r2 : Int) (r3 : Int), F37 k v1 v2 v3 = some (r1, r2, r3) → Fn prog 37 [(.agg [(aI v1), (.sl (l76 v2)), (.sl (l34 v3))])] [] (.tup [(.ptr 0 0), (.bool r1)]) [.cells [(aI r2), (aI r3)]] := by
  intro v1 v2 v3 r1 r2 r3 h
  rw [F37] at h
  refine Fn_bodyK hT Go.Proofs.Try.func37 (c := Go.Proofs.Try.f37.body.getD .skip) (by kernel_rfl) (by kernel_rfl) (by kernel_rfl) ?_
  refine zS hT [1] [(1, (.ptr 0 0))] [.cells [(aI v1), (.sl (l76 v2)), (.sl (l34 v3))]] ?_
  refine zS hT [1, 4] [(1, (.ptr 0 0)), (4, (.ptr 1 0))] [.cells [(aI v1), (.sl (l76 v2)), (.sl (l34 v3))], .cells [(aI 0), (aI 0)]] ?_
  refine AW_seq ?_
  refine AW_join (fun env L => ∃ (v4 : Bool), env = [(1, (.ptr 0 0)), (4, (.ptr 1 0)), (34, (.bool v4))] ∧ L = [.cells [(aI v1), (.sl (l76 v2)), (.sl (l34 v3))], .cells [(aI 0), (aI 0)]] ∧ ∃ n, n ≤ k ∧ F37_j0 n v2 v3 v4 = some (r1, r2, r3)) ?_ ?_
  · rcases bif_split h with ⟨h1, h⟩ | ⟨h1, h⟩
    · refine AW_reg ?_
      refine zm hT 3 [1, 4, 11] [(1, (.ptr 0 0)), (4, (.ptr 1 0)), (11, (.bool (decide (v1 < 0))))] ?_
      refine zO (jQ hT h1) ?_
      refine ze hT 22 [1, 4, 34] [(1, (.ptr 0 0)), (4, (.ptr 1 0)), (34, (.bool true))] ?_
      refine zK [1, 4, 34] [(1, (.ptr 0 0)), (4, (.ptr 1 0)), (34, (.bool true))] ?_
      exact AE_done ⟨true, rfl, rfl, k, by omega, h⟩
    · rcases bif_split h with ⟨h2, h⟩ | ⟨h2, h⟩
      · refine AW_reg ?_
        refine zm hT 3 [1, 4, 11] [(1, (.ptr 0 0)), (4, (.ptr 1 0)), (11, (.bool (decide (v1 < 0))))] ?_
        refine zO (jQ hT h1) ?_
        refine zm hT 4 [1, 4, 16] [(1, (.ptr 0 0)), (4, (.ptr 1 0)), (16, (.bool (decide (v1 > 65535))))] ?_
        refine zO (jQ hT h2) ?_
        refine ze hT 17 [1, 4, 34] [(1, (.ptr 0 0)), (4, (.ptr 1 0)), (34, (.bool true))] ?_
        refine zK [1, 4, 34] [(1, (.ptr 0 0)), (4, (.ptr 1 0)), (34, (.bool true))] ?_
        exact AE_done ⟨true, rfl, rfl, k, by omega, h⟩
      · rcases bif_split h with ⟨h3, h⟩ | ⟨h3, h⟩
        · refine AW_reg ?_
          refine zm hT 3 [1, 4, 11] [(1, (.ptr 0 0)), (4, (.ptr 1 0)), (11, (.bool (decide (v1 < 0))))] ?_
          refine zO (jQ hT h1) ?_
          refine zm hT 4 [1, 4, 16] [(1, (.ptr 0 0)), (4, (.ptr 1 0)), (16, (.bool (decide (v1 > 65535))))] ?_
          refine zO (jQ hT h2) ?_
          refine zm hT 5 [1, 4, 22] [(1, (.ptr 0 0)), (4, (.ptr 1 0)), (22, (.bool (decide (((l76 v2).length : Int) > 12))))] ?_
          refine zO (jQ hT h3) ?_
          refine ze hT 11 [1, 4, 34] [(1, (.ptr 0 0)), (4, (.ptr 1 0)), (34, (.bool true))] ?_
          refine zK [1, 4, 34] [(1, (.ptr 0 0)), (4, (.ptr 1 0)), (34, (.bool true))] ?_
          exact AE_done ⟨true, rfl, rfl, k, by omega, h⟩
        · rcases bif_split h with ⟨h4, h⟩ | ⟨h4, h⟩
          · refine AW_reg ?_
            refine zm hT 3 [1, 4, 11] [(1, (.ptr 0 0)), (4, (.ptr 1 0)), (11, (.bool (decide (v1 < 0))))] ?_
            refine zO (jQ hT h1) ?_
            refine zm hT 4 [1, 4, 16] [(1, (.ptr 0 0)), (4, (.ptr 1 0)), (16, (.bool (decide (v1 > 65535))))] ?_
            refine zO (jQ hT h2) ?_
            refine zm hT 5 [1, 4, 22] [(1, (.ptr 0 0)), (4, (.ptr 1 0)), (22, (.bool (decide (((l76 v2).length : Int) > 12))))] ?_
            refine zO (jQ hT h3) ?_
            refine zm hT 5 [1, 4, 28] [(1, (.ptr 0 0)), (4, (.ptr 1 0)), (28, (.bool (decide (((l34 v3).length : Int) < 1))))] ?_
            refine zO (jQ hT h4) ?_
            refine ze hT 5 [1, 4, 34] [(1, (.ptr 0 0)), (4, (.ptr 1 0)), (34, (.bool true))] ?_
            refine zK [1, 4, 34] [(1, (.ptr 0 0)), (4, (.ptr 1 0)), (34, (.bool true))] ?_
            exact AE_done ⟨true, rfl, rfl, k, by omega, h⟩
          · refine AW_reg ?_
            refine zm hT 3 [1, 4, 11] [(1, (.ptr 0 0)), (4, (.ptr 1 0)), (11, (.bool (decide (v1 < 0))))] ?_
            refine zO (jQ hT h1) ?_
            refine zm hT 4 [1, 4, 16] [(1, (.ptr 0 0)), (4, (.ptr 1 0)), (16, (.bool (decide (v1 > 65535))))] ?_
            refine zO (jQ hT h2) ?_
            refine zm hT 5 [1, 4, 22] [(1, (.ptr 0 0)), (4, (.ptr 1 0)), (22, (.bool (decide (((l76 v2).length : Int) > 12))))] ?_
            refine zO (jQ hT h3) ?_
            refine zm hT 5 [1, 4, 28] [(1, (.ptr 0 0)), (4, (.ptr 1 0)), (28, (.bool (decide (((l34 v3).length : Int) < 1))))] ?_
            refine zO (jQ hT h4) ?_
            refine ze hT 5 [1, 4, 34] [(1, (.ptr 0 0)), (4, (.ptr 1 0)), (34, (.bool (decide (((l34 v3).length : Int) > 6))))] ?_
            refine zK [1, 4, 34] [(1, (.ptr 0 0)), (4, (.ptr 1 0)), (34, (.bool (decide (((l34 v3).length : Int) > 6))))] ?_
            exact AE_done ⟨(decide (((l34 v3).length : Int) > 6)), rfl, rfl, k, by omega, h⟩
  · rintro _ _ ⟨v4, rfl, rfl, n, hn, h⟩
    obtain ⟨k5, rfl⟩ : ∃ q, q = n := ⟨n, rfl⟩
    rw [F37_j0] at h
    rcases bif_split h with ⟨h7, h⟩ | ⟨h7, h⟩
    · refine zT h7 ?_
      refine zs hT [2, 3] [(2, (.ptr 1 0)), (3, (.bool false))] ?_
      refine AE_ret ?_
      refine AE_seqR ?_
      refine zK [2, 3] [(2, (.ptr 1 0)), (3, (.bool false))] ?_
      refine AE_perm [1, 0] (env' := [(2, (.ptr 0 0)), (3, (.bool false))]) (L' := [.cells [(aI 0), (aI 0)], .cells [(aI v1), (.sl (l76 v2)), (.sl (l34 v3))]]) rfl rfl (by decide) (by decide) (by kernel_rfl) ⟨(by simp [AV.ren, AV.rens, AObj.ren, pname]), (by simp [AV.ren, AV.rens, AObj.ren, pname]), trivial⟩ (by simp [AV.low, AV.lows, AObj.low]) (by simp [AV.ren, AV.rens, AObj.ren, pname]) (by simp [AV.low, AV.lows]) ?_
      simp only [Option.some.injEq, Prod.mk.injEq] at h
      obtain ⟨rfl, rfl, rfl⟩ := h
      exact zEnd
    · refine zN h7 ?_
      refine AE_skip ?_
      refine AE_seqN ?_
      refine AW_seq ?_
      refine AW_seq ?_
      obtain ⟨v5, h8, h⟩ := bsm h
      try dsimp only at h
      refine AW_reg ?_
      refine zm hT 2 [1, 4, 37] [(1, (.ptr 0 0)), (4, (.ptr 1 0)), (37, (.sl (l76 v2)))] ?_
      refine zO (jP Go.Proofs.Try.func72 (F72_ok k5 v2 v5 h8)) ?_
      refine zF ?_
      refine zK [1, 4, 38] [(1, (.ptr 0 0)), (4, (.ptr 1 0)), (38, (.bool v5))] ?_
      refine AE_seqN ?_
      rcases bif_split h with ⟨h9, h⟩ | ⟨h9, h⟩
      · refine zT h9 ?_
        refine zs hT [2, 3] [(2, (.ptr 1 0)), (3, (.bool false))] ?_
        refine AE_ret ?_
        refine AE_seqR ?_
        refine zK [2, 3] [(2, (.ptr 1 0)), (3, (.bool false))] ?_
        refine AE_perm [1, 0] (env' := [(2, (.ptr 0 0)), (3, (.bool false))]) (L' := [.cells [(aI 0), (aI 0)], .cells [(aI v1), (.sl (l76 v2)), (.sl (l34 v3))]]) rfl rfl (by decide) (by decide) (by kernel_rfl) ⟨(by simp [AV.ren, AV.rens, AObj.ren, pname]), (by simp [AV.ren, AV.rens, AObj.ren, pname]), trivial⟩ (by simp [AV.low, AV.lows, AObj.low]) (by simp [AV.ren, AV.rens, AObj.ren, pname]) (by simp [AV.low, AV.lows]) ?_
        simp only [Option.some.injEq, Prod.mk.injEq] at h
        obtain ⟨rfl, rfl, rfl⟩ := h
        exact zEnd
      · refine zN h9 ?_
        refine AE_skip ?_
        refine AE_seqN ?_
        refine AW_seq ?_
        refine zs hT [4, 41, 42, 43] [(4, (.ptr 1 0)), (41, (.sl (l34 v3))), (42, (aI ((l34 v3).length : Int))), (43, (aI 0))] ?_
        refine AW_block ?_
        refine zKw [4, 41, 42, 43] [(4, (.ptr 1 0)), (41, (.sl (l34 v3))), (42, (aI ((l34 v3).length : Int))), (43, (aI 0))] ?_
        refine AW_loop (fun n env L => n ≤ k5 ∧ ∃ (v6 : Int) (v7 : Int) (v8 : Int), env = [(4, (.ptr 1 0)), (41, (.sl (l34 v3))), (42, (aI ((l34 v3).length : Int))), (43, (aI v6))] ∧ L = [.cells [(aI v1), (.sl (l76 v2)), (.sl (l34 v3))], .cells [(aI v7), (aI v8)]] ∧ F37_l1 n v3 v6 v7 v8 = some (r1, r2, r3)) k5 ⟨Nat.le_refl _, 0, 0, 0, rfl, rfl, h⟩ ?_
        rintro n _ _ ⟨hn, v6, v7, v8, rfl, rfl, h⟩
        cases n with
        | zero => rw [F37_l1] at h; cases h
        | succ k10 =>
          rw [F37_l1] at h
          refine zs hT [4, 41, 42, 43, 44] [(4, (.ptr 1 0)), (41, (.sl (l34 v3))), (42, (aI ((l34 v3).length : Int))), (43, (aI v6)), (44, (.bool (decide (v6 < ((l34 v3).length : Int)))))] ?_
          refine AW_seq ?_
          rcases bif_split h with ⟨h12, h⟩ | ⟨h12, h⟩
          · refine zT h12 ?_
            refine AE_skip ?_
            refine AE_seqN ?_
            refine AW_seq ?_
            refine AW_block ?_
            refine AW_seq ?_
            obtain ⟨⟨v9, v10, v11⟩, h13, h⟩ := bsm h
            try dsimp only at h
            refine AW_reg ?_
            refine zO (jX hT 3 (i34 h13)) ?_
            refine zE hT 3 [4, 6, 41, 42, 43] [(4, (.ptr 1 0)), (6, (.ptr 2 0)), (41, (.sl (l34 v3))), (42, (aI ((l34 v3).length : Int))), (43, (aI v6))] [.cells [(aI v1), (.sl (l76 v2)), (.sl (l34 v3))], .cells [(aI v7), (aI v8)], .cells [(.str v9), (.sl (l69 v10)), (aI v11)]] ?_
            refine AE_seqN ?_
            refine AW_join (fun env L => ∃ (v12 : Int) (v13 : Bool) (v14 : Int) (v15 : Int) (v16 : ByteArray) (v17 : (List T69)) (v18 : Int), env = [(4, (.ptr 1 0)), (41, (.sl (l34 v3))), (42, (aI ((l34 v3).length : Int))), (43, (aI v12)), (57, (.bool v13))] ∧ L = [.cells [(aI v1), (.sl (l76 v2)), (.sl (l34 v3))], .cells [(aI v14), (aI v15)], .cells [(.str v16), (.sl (l69 v17)), (aI v18)]] ∧ ∃ n, n ≤ k10 ∧ F37_j2 n v3 v12 v13 v14 v15 = some (r1, r2, r3)) ?_ ?_
            · obtain ⟨v19, h14, h⟩ := bsm h
              try dsimp only at h
              rcases bif_split h with ⟨h15, h⟩ | ⟨h15, h⟩
              · refine AW_reg ?_
                refine zm hT 2 [4, 6, 41, 42, 43, 48] [(4, (.ptr 1 0)), (6, (.ptr 2 0)), (41, (.sl (l34 v3))), (42, (aI ((l34 v3).length : Int))), (43, (aI v6)), (48, (.str v9))] ?_
                refine zO (jP Go.Proofs.Try.func75 (F75_ok k10 v9 v19 h14)) ?_
                refine zm hT 1 [4, 6, 41, 42, 43, 50] [(4, (.ptr 1 0)), (6, (.ptr 2 0)), (41, (.sl (l34 v3))), (42, (aI ((l34 v3).length : Int))), (43, (aI v6)), (50, (.bool (!v19)))] ?_
                refine zO (jQ hT h15) ?_
                refine ze hT 6 [4, 41, 42, 43, 57] [(4, (.ptr 1 0)), (41, (.sl (l34 v3))), (42, (aI ((l34 v3).length : Int))), (43, (aI v6)), (57, (.bool true))] ?_
                refine zK [4, 41, 42, 43, 57] [(4, (.ptr 1 0)), (41, (.sl (l34 v3))), (42, (aI ((l34 v3).length : Int))), (43, (aI v6)), (57, (.bool true))] ?_
                exact AE_done ⟨v6, true, v7, v8, v9, v10, v11, rfl, rfl, k10, by omega, h⟩
              · obtain ⟨⟨v20, v21, v22⟩, h16, h⟩ := bsm h
                try dsimp only at h
                refine AW_reg ?_
                refine zm hT 2 [4, 6, 41, 42, 43, 48] [(4, (.ptr 1 0)), (6, (.ptr 2 0)), (41, (.sl (l34 v3))), (42, (aI ((l34 v3).length : Int))), (43, (aI v6)), (48, (.str v9))] ?_
                refine zO (jP Go.Proofs.Try.func75 (F75_ok k10 v9 v19 h14)) ?_
                refine zm hT 1 [4, 6, 41, 42, 43, 50] [(4, (.ptr 1 0)), (6, (.ptr 2 0)), (41, (.sl (l34 v3))), (42, (aI ((l34 v3).length : Int))), (43, (aI v6)), (50, (.bool (!v19)))] ?_
                refine zO (jQ hT h15) ?_
                refine zm hT 3 [4, 41, 42, 43, 51, 52, 54] [(4, (.ptr 1 0)), (41, (.sl (l34 v3))), (42, (aI ((l34 v3).length : Int))), (43, (aI v6)), (51, (.bool false)), (52, (.ptr 1 0)), (54, (.sl (l69 v10)))] ?_
                refine zO (jC Go.Proofs.Try.func76 (Fn_in (L := [.cells [(aI v1), (.sl (l76 v2)), (.sl (l34 v3))], .cells [(aI v7), (aI v8)], .cells [(.str v9), (.sl (l69 v10)), (aI v11)]]) (args' := [(.ptr 1 0), (.sl (l69 v10)), (aI 12)]) (res' := (.bool v20)) (L'' := [.cells [(aI v1), (.sl (l76 v2)), (.sl (l34 v3))], .cells [(aI v21), (aI v22)], .cells [(.str v9), (.sl (l69 v10)), (aI v11)]]) [1] (F76_ok k10 v10 12 v7 v8 v20 v21 v22 h16) rfl (by decide) ⟨(by simp [AV.ren, AV.rens, AObj.ren, gname]), trivial⟩ (by simp [AV.low, AV.lows, AObj.low]) (by simp [AV.low, AV.lows, AObj.low]) (by kernel_rfl) (by simp [AV.ren, AV.rens, AObj.ren, gname, putBack]) (by simp [AV.ren, AV.rens, AObj.ren, gname, putBack]) (by simp [AV.ren, AV.rens, AObj.ren, gname, putBack]))) ?_
                refine ze hT 2 [4, 41, 42, 43, 57] [(4, (.ptr 1 0)), (41, (.sl (l34 v3))), (42, (aI ((l34 v3).length : Int))), (43, (aI v6)), (57, (.bool (!v20)))] ?_
                refine zK [4, 41, 42, 43, 57] [(4, (.ptr 1 0)), (41, (.sl (l34 v3))), (42, (aI ((l34 v3).length : Int))), (43, (aI v6)), (57, (.bool (!v20)))] ?_
                exact AE_done ⟨v6, (!v20), v21, v22, v9, v10, v11, rfl, rfl, k10, by omega, h⟩
            · rintro _ _ ⟨v12, v13, v14, v15, v16, v17, v18, rfl, rfl, n, hn, h⟩
              obtain _ | k17 := n
              · rw [F37_j2] at h; cases h
              rw [F37_j2] at h
              rcases bif_split h with ⟨h19, h⟩ | ⟨h19, h⟩
              · refine zT h19 ?_
                refine zs hT [2, 3] [(2, (.ptr 1 0)), (3, (.bool false))] ?_
                refine AE_ret ?_
                refine AE_blkR ?_
                refine AE_seqR ?_
                refine AE_seqR ?_
                refine AE_blkR ?_
                refine AE_seqR ?_
                refine zK [2, 3] [(2, (.ptr 1 0)), (3, (.bool false))] ?_
                refine AE_perm [1, 0, 2] (env' := [(2, (.ptr 0 0)), (3, (.bool false))]) (L' := [.cells [(aI v14), (aI v15)], .cells [(aI v1), (.sl (l76 v2)), (.sl (l34 v3))], .cells [(.str v16), (.sl (l69 v17)), (aI v18)]]) rfl rfl (by decide) (by decide) (by kernel_rfl) ⟨(by simp [AV.ren, AV.rens, AObj.ren, pname]), (by simp [AV.ren, AV.rens, AObj.ren, pname]), (by simp [AV.ren, AV.rens, AObj.ren, pname]), trivial⟩ (by simp [AV.low, AV.lows, AObj.low]) (by simp [AV.ren, AV.rens, AObj.ren, pname]) (by simp [AV.low, AV.lows]) ?_
                simp only [Option.some.injEq, Prod.mk.injEq] at h
                obtain ⟨rfl, rfl, rfl⟩ := h
                exact zEnd
              · refine zN h19 ?_
                refine AE_skip ?_
                refine AE_blkN ?_
                refine AE_seqN ?_
                refine zr hT [4, 41, 42, 43] [(4, (.ptr 1 0)), (41, (.sl (l34 v3))), (42, (aI ((l34 v3).length : Int))), (43, (aI (IntKind.wrap .i64 (v12 + 1))))] ?_
                refine zK [4, 41, 42, 43] [(4, (.ptr 1 0)), (41, (.sl (l34 v3))), (42, (aI ((l34 v3).length : Int))), (43, (aI (IntKind.wrap .i64 (v12 + 1))))] ?_
                refine zD 2 [.cells [(aI v1), (.sl (l76 v2)), (.sl (l34 v3))], .cells [(aI v14), (aI v15)]] ?_
                exact AE_done ⟨k17, by omega, by omega, (IntKind.wrap .i64 (v12 + 1)), v14, v15, rfl, rfl, h⟩
          · refine zN h12 ?_
            refine AE_exit ?_
            refine AE_seqX ?_
            refine AE_seqX ?_
            refine AE_blkH ?_
            refine AE_seqN ?_
            refine zs hT [2, 3] [(2, (.ptr 1 0)), (3, (.bool true))] ?_
            refine AE_ret ?_
            refine zK [2, 3] [(2, (.ptr 1 0)), (3, (.bool true))] ?_
            refine AE_perm [1, 0] (env' := [(2, (.ptr 0 0)), (3, (.bool true))]) (L' := [.cells [(aI v7), (aI v8)], .cells [(aI v1), (.sl (l76 v2)), (.sl (l34 v3))]]) rfl rfl (by decide) (by decide) (by kernel_rfl) ⟨(by simp [AV.ren, AV.rens, AObj.ren, pname]), (by simp [AV.ren, AV.rens, AObj.ren, pname]), trivial⟩ (by simp [AV.low, AV.lows, AObj.low]) (by simp [AV.ren, AV.rens, AObj.ren, pname]) (by simp [AV.low, AV.lows]) ?_
            simp only [Option.some.injEq, Prod.mk.injEq] at h
            obtain ⟨rfl, rfl, rfl⟩ := h
            exact zEnd

def F14 (k : Nat) (v1 : Int) (v2 : (List T76)) (v3 : (List T34)) : Option (Int) :=
  ((F37 k v1 v2 v3).bind fun ⟨v4, v5, v6⟩ =>
    (bif (!v4) then
      some (1)
    else
      some (0)))

theorem F14_ok (k : Nat) : ∀ (v1 : Int) (v2 : (List T76)) (v3 : (List T34)) (r1 : Int), F14 k v1 v2 v3 = some (r1) → Fn prog 14 [(.agg [(aI v1), (.sl (l76 v2)), (.sl (l34 v3))])] [] (aI r1) [] := by
  intro v1 v2 v3 r1 h
  rw [F14] at h
  refine Fn_bodyK hT Go.Proofs.Try.func14 (c := Go.Proofs.Try.f14.body.getD .skip) (by kernel_rfl) (by kernel_rfl) (by kernel_rfl) ?_
  refine zS hT [1] [(1, (.ptr 0 0))] [.cells [(aI v1), (.sl (l76 v2)), (.sl (l34 v3))]] ?_
  refine AW_seq ?_
  refine AW_seq ?_
  obtain ⟨⟨v4, v5, v6⟩, h1, h⟩ := bsm h
  try dsimp only at h
  refine AW_reg ?_
  refine zm hT 1 [6] [(6, (.agg [(aI v1), (.sl (l76 v2)), (.sl (l34 v3))]))] ?_
  refine zO (jC Go.Proofs.Try.func37 (Fn_in (L := [.cells [(aI v1), (.sl (l76 v2)), (.sl (l34 v3))]]) (args' := [(.agg [(aI v1), (.sl (l76 v2)), (.sl (l34 v3))])]) (res' := (.tup [(.ptr 1 0), (.bool v4)])) (L'' := [.cells [(aI v1), (.sl (l76 v2)), (.sl (l34 v3))], .cells [(aI v5), (aI v6)]]) [] (F37_ok k v1 v2 v3 v4 v5 v6 h1) rfl (by decide) trivial (by simp [AV.low, AV.lows, AObj.low]) (by simp [AV.low, AV.lows, AObj.low]) (by kernel_rfl) (by simp [AV.ren, AV.rens, AObj.ren, gname, putBack]) (by simp [AV.ren, AV.rens, AObj.ren, gname, putBack]) (by simp [AV.ren, AV.rens, AObj.ren, gname, putBack]))) ?_
  refine ze hT 5 [4] [(4, (.bool v4))] ?_
  refine AE_seqN ?_
  refine zs hT [11] [(11, (.bool (!v4)))] ?_
  rcases bif_split h with ⟨h2, h⟩ | ⟨h2, h⟩
  · refine zT h2 ?_
    refine zs hT [2] [(2, (aI 1))] ?_
    refine AE_ret ?_
    refine AE_seqR ?_
    refine zK [2] [(2, (aI 1))] ?_
    simp only [Option.some.injEq] at h
    subst h
    exact zEnd
  · refine zN h2 ?_
    refine AE_skip ?_
    refine AE_seqN ?_
    refine zs hT [2] [(2, (aI 0))] ?_
    refine AE_ret ?_
    refine zK [2] [(2, (aI 0))] ?_
    simp only [Option.some.injEq] at h
    subst h
    exact zEnd

mutual
def F40 : Nat → (List T69) → Int → Option (Int)
  | 0, _, _ => none
  | k + 1, v1, v2 =>
    (bif (v2 == 0) then
      some (0)
    else
      F40_l0 k v2 v1 0 0)
def F40_l0 : Nat → Int → (List T69) → Int → Int → Option (Int)
  | 0, _, _, _, _ => none
  | k2 + 1, v2, v1, v3, v4 =>
    (bif (decide (v4 < ((l69 v1).length : Int))) then
      ((idx v1 v4).bind fun ⟨v5, v6, v7, v8, v9, v10, v11⟩ =>
        ((F40 k2 v9 (IntKind.wrap .i64 (v2 - 1))).bind fun v12 =>
          ((F40 k2 v10 (IntKind.wrap .i64 (v2 - 1))).bind fun v13 =>
            F40_l0 k2 v2 v1 (if (IntKind.wrap .i64 (1 + (if v13 > v12 then v13 else v12))) > v3 then (IntKind.wrap .i64 (1 + (if v13 > v12 then v13 else v12))) else v3) (IntKind.wrap .i64 (v4 + 1)))))
    else
      some (v3))
end

theorem F40_step (K0 : Nat) (ih_F40 : ∀ k, k < K0 → ∀ (v1 : (List T69)) (v2 : Int) (r1 : Int), F40 k v1 v2 = some (r1) → Fn prog 40 [(.sl (l69 v1)), (aI v2)] [] (aI r1) []) : ∀ (v1 : (List T69)) (v2 : Int) (r1 : Int), F40 K0 v1 v2 = some (r1) → Fn prog 40 [(.sl (l69 v1)), (aI v2)] [] (aI r1) [] := by
  intro v1 v2 r1 h
  cases K0 with
  | zero => rw [F40] at h; cases h
  | succ k =>
    have hk : k < k + 1 := Nat.lt_succ_self k
    rw [F40] at h
    refine Fn_bodyK hT Go.Proofs.Try.func40 (c := Go.Proofs.Try.f40.body.getD .skip) (by kernel_rfl) (by kernel_rfl) (by kernel_rfl) ?_
    refine zs hT [0, 1] [(0, (.sl (l69 v1))), (1, (aI v2))] ?_
    refine zs hT [0, 1, 5] [(0, (.sl (l69 v1))), (1, (aI v2)), (5, (aI 0))] ?_
    refine AW_seq ?_
    refine zs hT [0, 1, 5, 9] [(0, (.sl (l69 v1))), (1, (aI v2)), (5, (aI 0)), (9, (.bool (v2 == 0)))] ?_
    rcases bif_split h with ⟨h1, h⟩ | ⟨h1, h⟩
    · refine zT h1 ?_
      refine zs hT [4] [(4, (aI 0))] ?_
      refine AE_ret ?_
      refine AE_seqR ?_
      refine zK [4] [(4, (aI 0))] ?_
      simp only [Option.some.injEq] at h
      subst h
      exact zEnd
    · refine zN h1 ?_
      refine AE_skip ?_
      refine AE_seqN ?_
      refine AW_seq ?_
      refine zs hT [1, 5, 10, 11, 12] [(1, (aI v2)), (5, (aI 0)), (10, (.sl (l69 v1))), (11, (aI ((l69 v1).length : Int))), (12, (aI 0))] ?_
      refine AW_block ?_
      refine zKw [1, 5, 10, 11, 12] [(1, (aI v2)), (5, (aI 0)), (10, (.sl (l69 v1))), (11, (aI ((l69 v1).length : Int))), (12, (aI 0))] ?_
      refine AW_loop (fun n env L => n ≤ k ∧ ∃ (v3 : Int) (v4 : Int), env = [(1, (aI v2)), (5, (aI v3)), (10, (.sl (l69 v1))), (11, (aI ((l69 v1).length : Int))), (12, (aI v4))] ∧ L = [] ∧ F40_l0 n v2 v1 v3 v4 = some (r1)) k ⟨Nat.le_refl _, 0, 0, rfl, rfl, h⟩ ?_
      rintro n _ _ ⟨hn, v3, v4, rfl, rfl, h⟩
      cases n with
      | zero => rw [F40_l0] at h; cases h
      | succ k2 =>
        have h3 : k2 < (k + 1) := by omega
        rw [F40_l0] at h
        refine zs hT [1, 5, 10, 11, 12, 13] [(1, (aI v2)), (5, (aI v3)), (10, (.sl (l69 v1))), (11, (aI ((l69 v1).length : Int))), (12, (aI v4)), (13, (.bool (decide (v4 < ((l69 v1).length : Int)))))] ?_
        refine AW_seq ?_
        rcases bif_split h with ⟨h4, h⟩ | ⟨h4, h⟩
        · refine zT h4 ?_
          refine AE_skip ?_
          refine AE_seqN ?_
          refine AW_seq ?_
          refine AW_block ?_
          refine AW_seq ?_
          obtain ⟨⟨v5, v6, v7, v8, v9, v10, v11⟩, h5, h⟩ := bsm h
          try dsimp only at h
          refine AW_reg ?_
          refine zO (jX hT 7 (i69 h5)) ?_
          refine zE hT 3 [1, 5, 7, 10, 11, 12] [(1, (aI v2)), (5, (aI v3)), (7, (.ptr 0 0)), (10, (.sl (l69 v1))), (11, (aI ((l69 v1).length : Int))), (12, (aI v4))] [.cells [(aI v5), (.str v6), (.str v7), (.sl (l57 v8)), (.sl (l69 v9)), (.sl (l69 v10)), (aI v11)]] ?_
          refine AE_seqN ?_
          obtain ⟨v12, h6, h⟩ := bsm h
          try dsimp only at h
          obtain ⟨v13, h7, h⟩ := bsm h
          try dsimp only at h
          refine AW_drx hmix [⟨(aI v3), [], 0, 0, false⟩, ⟨(.ptr 0 4), [], 0, 0, false⟩, ⟨(.sl (l69 v9)), [1], 0, 0, false⟩, ⟨(aI v2), [], 0, 0, false⟩, ⟨(aI (IntKind.wrap .i64 (v2 - 1))), [3], 0, 0, false⟩, ⟨(aI v12), [1, 2, 3, 4], 0, 0, false⟩, ⟨(.ptr 0 5), [], 0, 0, false⟩, ⟨(.sl (l69 v10)), [6], 0, 0, false⟩, ⟨(aI v2), [], 0, 0, false⟩, ⟨(aI (IntKind.wrap .i64 (v2 - 1))), [8], 0, 0, false⟩, ⟨(aI v13), [1, 2, 3, 4, 5, 6, 7, 8, 9], 0, 0, false⟩, ⟨(aI (if v13 > v12 then v13 else v12)), [1, 2, 3, 4, 5, 6, 7, 8, 9, 10], 0, 0, false⟩, ⟨(aI (IntKind.wrap .i64 (1 + (if v13 > v12 then v13 else v12)))), [1, 2, 3, 4, 5, 6, 7, 8, 9, 10, 11], 0, 0, false⟩, ⟨(aI (if (IntKind.wrap .i64 (1 + (if v13 > v12 then v13 else v12))) > v3 then (IntKind.wrap .i64 (1 + (if v13 > v12 then v13 else v12))) else v3)), [0, 1, 2, 3, 4, 5, 6, 7, 8, 9, 10, 11, 12], 0, 0, false⟩, ⟨(aI (if (IntKind.wrap .i64 (1 + (if v13 > v12 then v13 else v12))) > v3 then (IntKind.wrap .i64 (1 + (if v13 > v12 then v13 else v12))) else v3)), [0, 1, 2, 3, 4, 5, 6, 7, 8, 9, 10, 11, 12, 13], 0, 0, false⟩] [] (fun _ => [.cells [(aI v5), (.str v6), (.str v7), (.sl (l57 v8)), (.sl (l69 v9)), (.sl (l69 v10)), (aI v11)]]) [1, 5, 10, 11, 12] [(1, (aI v2)), (5, (aI (if (IntKind.wrap .i64 (1 + (if v13 > v12 then v13 else v12))) > v3 then (IntKind.wrap .i64 (1 + (if v13 > v12 then v13 else v12))) else v3))), (10, (.sl (l69 v1))), (11, (aI ((l69 v1).length : Int))), (12, (aI v4))] [.cells [(aI v5), (.str v6), (.str v7), (.sl (l57 v8)), (.sl (l69 v9)), (.sl (l69 v10)), (aI v11)]] (by kernel_rfl) rfl rfl (by kernel_rfl) ?_ ?_
          · refine SA_plain hT 5 (by kernel_rfl) ?_
            refine SA_tell (v := (aI v12)) (by kernel_rfl) (by kernel_rfl) (by kernel_rfl) (fun L => (jP Go.Proofs.Try.func40 (ih_F40 k2 h3 v9 (IntKind.wrap .i64 (v2 - 1)) v12 h6))) ?_
            refine SA_plain hT 4 (by kernel_rfl) ?_
            refine SA_tell (v := (aI v13)) (by kernel_rfl) (by kernel_rfl) (by kernel_rfl) (fun L => (jP Go.Proofs.Try.func40 (ih_F40 k2 h3 v10 (IntKind.wrap .i64 (v2 - 1)) v13 h7))) ?_
            refine SA_plain hT 4 (by kernel_rfl) ?_
            exact SA_end (by kernel_rfl)
          refine AE_blkN ?_
          refine AE_seqN ?_
          refine zr hT [1, 5, 10, 11, 12] [(1, (aI v2)), (5, (aI (if (IntKind.wrap .i64 (1 + (if v13 > v12 then v13 else v12))) > v3 then (IntKind.wrap .i64 (1 + (if v13 > v12 then v13 else v12))) else v3))), (10, (.sl (l69 v1))), (11, (aI ((l69 v1).length : Int))), (12, (aI (IntKind.wrap .i64 (v4 + 1))))] ?_
          refine zK [1, 5, 10, 11, 12] [(1, (aI v2)), (5, (aI (if (IntKind.wrap .i64 (1 + (if v13 > v12 then v13 else v12))) > v3 then (IntKind.wrap .i64 (1 + (if v13 > v12 then v13 else v12))) else v3))), (10, (.sl (l69 v1))), (11, (aI ((l69 v1).length : Int))), (12, (aI (IntKind.wrap .i64 (v4 + 1))))] ?_
          refine zD 0 [] ?_
          exact AE_done ⟨k2, by omega, by omega, (if (IntKind.wrap .i64 (1 + (if v13 > v12 then v13 else v12))) > v3 then (IntKind.wrap .i64 (1 + (if v13 > v12 then v13 else v12))) else v3), (IntKind.wrap .i64 (v4 + 1)), rfl, rfl, h⟩
        · refine zN h4 ?_
          refine AE_exit ?_
          refine AE_seqX ?_
          refine AE_seqX ?_
          refine AE_blkH ?_
          refine AE_seqN ?_
          refine zs hT [4] [(4, (aI v3))] ?_
          refine AE_ret ?_
          refine zK [4] [(4, (aI v3))] ?_
          simp only [Option.some.injEq] at h
          subst h
          exact zEnd

theorem F40_all (K0 : Nat) : (∀ (v1 : (List T69)) (v2 : Int) (r1 : Int), F40 K0 v1 v2 = some (r1) → Fn prog 40 [(.sl (l69 v1)), (aI v2)] [] (aI r1) []) := by
  induction K0 using Nat.strongRecOn with
  | ind K0 ih => exact F40_step K0 (fun k hk => (ih k hk))

theorem F40_ok (K0 : Nat) : ∀ (v1 : (List T69)) (v2 : Int) (r1 : Int), F40 K0 v1 v2 = some (r1) → Fn prog 40 [(.sl (l69 v1)), (aI v2)] [] (aI r1) [] := (F40_all K0)

def F15 (k : Nat) (v1 : (List T69)) : Option (Int) :=
  ((F40 k v1 13).bind fun v2 =>
    some (v2))

theorem F15_ok (k : Nat) : ∀ (v1 : (List T69)) (r1 : Int), F15 k v1 = some (r1) → Fn prog 15 [(.sl (l69 v1))] [] (aI r1) [] := by
  intro v1 r1 h
  rw [F15] at h
  refine Fn_bodyK hT Go.Proofs.Try.func15 (c := Go.Proofs.Try.f15.body.getD .skip) (by kernel_rfl) (by kernel_rfl) (by kernel_rfl) ?_
  refine zs hT [0] [(0, (.sl (l69 v1)))] ?_
  refine AW_seq ?_
  obtain ⟨v2, h1, h⟩ := bsm h
  try dsimp only at h
  refine AW_reg ?_
  refine zm hT 1 [3] [(3, (.sl (l69 v1)))] ?_
  refine zO (jP Go.Proofs.Try.func40 (F40_ok k v1 13 v2 h1)) ?_
  refine ze hT 1 [2] [(2, (aI v2))] ?_
  refine AE_seqN ?_
  refine AE_ret ?_
  refine zK [2] [(2, (aI v2))] ?_
  simp only [Option.some.injEq] at h
  subst h
  exact zEnd

def F43 (k : Nat) (v1 : Int) (v2 : ByteArray) (v3 : Int) (v4 : Int) (v5 : Int) (v6 : ByteArray) (v7 : Int) (v8 : Int) : Option (Bool) :=
  (bif (v1 == v5) then
    (bif (v2.toList == v6.toList) then
      some ((v3 == v7))
    else
      some (false))
  else
    some (false))

theorem F43_ok (k : Nat) : ∀ (v1 : Int) (v2 : ByteArray) (v3 : Int) (v4 : Int) (v5 : Int) (v6 : ByteArray) (v7 : Int) (v8 : Int) (r1 : Bool), F43 k v1 v2 v3 v4 v5 v6 v7 v8 = some (r1) → Fn prog 43 [(.agg [(aI v1), (.str v2), (aI v3), (aI v4)]), (.agg [(aI v5), (.str v6), (aI v7), (aI v8)])] [] (.bool r1) [] := by
  intro v1 v2 v3 v4 v5 v6 v7 v8 r1 h
  rw [F43] at h
  refine Fn_bodyK hT Go.Proofs.Try.func43 (c := Go.Proofs.Try.f43.body.getD .skip) (by kernel_rfl) (by kernel_rfl) (by kernel_rfl) ?_
  refine zS hT [2, 3] [(2, (.ptr 0 0)), (3, (.ptr 1 0))] [.cells [(aI v1), (.str v2), (aI v3), (aI v4)], .cells [(aI v5), (.str v6), (aI v7), (aI v8)]] ?_
  refine AW_seq ?_
  rcases bif_split h with ⟨h1, h⟩ | ⟨h1, h⟩
  · rcases bif_split h with ⟨h2, h⟩ | ⟨h2, h⟩
    · refine AW_reg ?_
      refine zm hT 5 [2, 3, 9] [(2, (.ptr 0 0)), (3, (.ptr 1 0)), (9, (.bool (v1 == v5)))] ?_
      refine zO (jQ hT h1) ?_
      refine zm hT 6 [2, 3, 16] [(2, (.ptr 0 0)), (3, (.ptr 1 0)), (16, (.bool (v2.toList == v6.toList)))] ?_
      refine zO (jQ hT h2) ?_
      refine ze hT 7 [4] [(4, (.bool (v3 == v7)))] ?_
      refine AE_seqN ?_
      refine AE_ret ?_
      refine zK [4] [(4, (.bool (v3 == v7)))] ?_
      simp only [Option.some.injEq] at h
      subst h
      exact zEnd
    · refine AW_reg ?_
      refine zm hT 5 [2, 3, 9] [(2, (.ptr 0 0)), (3, (.ptr 1 0)), (9, (.bool (v1 == v5)))] ?_
      refine zO (jQ hT h1) ?_
      refine zm hT 6 [2, 3, 16] [(2, (.ptr 0 0)), (3, (.ptr 1 0)), (16, (.bool (v2.toList == v6.toList)))] ?_
      refine zO (jQ hT h2) ?_
      refine ze hT 7 [4] [(4, (.bool false))] ?_
      refine AE_seqN ?_
      refine AE_ret ?_
      refine zK [4] [(4, (.bool false))] ?_
      simp only [Option.some.injEq] at h
      subst h
      exact zEnd
  · refine AW_reg ?_
    refine zm hT 5 [2, 3, 9] [(2, (.ptr 0 0)), (3, (.ptr 1 0)), (9, (.bool (v1 == v5)))] ?_
    refine zO (jQ hT h1) ?_
    refine ze hT 14 [4] [(4, (.bool false))] ?_
    refine AE_seqN ?_
    refine AE_ret ?_
    refine zK [4] [(4, (.bool false))] ?_
    simp only [Option.some.injEq] at h
    subst h
    exact zEnd

def F42_l0 : Nat → (List T76) → (List T76) → Int → Option (Bool)
  | 0, _, _, _ => none
  | k2 + 1, v2, v1, v3 =>
    (bif (decide (v3 < ((l76 v1).length : Int))) then
      ((idx v1 v3).bind fun ⟨v4, v5, v6, v7⟩ =>
        ((idx v2 v3).bind fun ⟨v8, v9, v10, v11⟩ =>
          ((F43 k2 v4 v5 v6 v7 v8 v9 v10 v11).bind fun v12 =>
            (bif (!v12) then
              some (false)
            else
              F42_l0 k2 v2 v1 (IntKind.wrap .i64 (v3 + 1))))))
    else
      some (true))

def F42 (k : Nat) (v1 : (List T76)) (v2 : (List T76)) : Option (Bool) :=
  (bif (((l76 v1).length : Int) != ((l76 v2).length : Int)) then
    some (false)
  else
    F42_l0 k v2 v1 0)

theorem F42_ok (k : Nat) : ∀ (v1 : (List T76)) (v2 : (List T76)) (r1 : Bool), F42 k v1 v2 = some (r1) → Fn prog 42 [(.sl (l76 v1)), (.sl (l76 v2)), (.fn 43 [] [])] [] (.bool r1) [] := by
  intro v1 v2 r1 h
  rw [F42] at h
  refine Fn_bodyK hT Go.Proofs.Try.func42 (c := Go.Proofs.Try.f42.body.getD .skip) (by kernel_rfl) (by kernel_rfl) (by kernel_rfl) ?_
  refine zs hT [0, 1, 2] [(0, (.sl (l76 v1))), (1, (.sl (l76 v2))), (2, (.fn 43 [] []))] ?_
  refine AW_seq ?_
  refine zs hT [0, 1, 2, 14] [(0, (.sl (l76 v1))), (1, (.sl (l76 v2))), (2, (.fn 43 [] [])), (14, (.bool (((l76 v1).length : Int) != ((l76 v2).length : Int))))] ?_
  rcases bif_split h with ⟨h1, h⟩ | ⟨h1, h⟩
  · refine zT h1 ?_
    refine zs hT [6] [(6, (.bool false))] ?_
    refine AE_ret ?_
    refine AE_seqR ?_
    refine zK [6] [(6, (.bool false))] ?_
    simp only [Option.some.injEq] at h
    subst h
    exact zEnd
  · refine zN h1 ?_
    refine AE_skip ?_
    refine AE_seqN ?_
    refine AW_seq ?_
    refine zs hT [1, 2, 15, 16, 17] [(1, (.sl (l76 v2))), (2, (.fn 43 [] [])), (15, (.sl (l76 v1))), (16, (aI ((l76 v1).length : Int))), (17, (aI 0))] ?_
    refine AW_block ?_
    refine zKw [1, 2, 15, 16, 17] [(1, (.sl (l76 v2))), (2, (.fn 43 [] [])), (15, (.sl (l76 v1))), (16, (aI ((l76 v1).length : Int))), (17, (aI 0))] ?_
    refine AW_loop (fun n env L => n ≤ k ∧ ∃ (v3 : Int), env = [(1, (.sl (l76 v2))), (2, (.fn 43 [] [])), (15, (.sl (l76 v1))), (16, (aI ((l76 v1).length : Int))), (17, (aI v3))] ∧ L = [] ∧ F42_l0 n v2 v1 v3 = some (r1)) k ⟨Nat.le_refl _, 0, rfl, rfl, h⟩ ?_
    rintro n _ _ ⟨hn, v3, rfl, rfl, h⟩
    cases n with
    | zero => rw [F42_l0] at h; cases h
    | succ k2 =>
      rw [F42_l0] at h
      refine zs hT [1, 2, 15, 16, 17, 18] [(1, (.sl (l76 v2))), (2, (.fn 43 [] [])), (15, (.sl (l76 v1))), (16, (aI ((l76 v1).length : Int))), (17, (aI v3)), (18, (.bool (decide (v3 < ((l76 v1).length : Int)))))] ?_
      refine AW_seq ?_
      rcases bif_split h with ⟨h4, h⟩ | ⟨h4, h⟩
      · refine zT h4 ?_
        refine AE_skip ?_
        refine AE_seqN ?_
        refine AW_seq ?_
        refine AW_block ?_
        refine AW_seq ?_
        obtain ⟨⟨v4, v5, v6, v7⟩, h5, h⟩ := bsm h
        try dsimp only at h
        refine AW_reg ?_
        refine zm hT 1 [1, 2, 15, 16, 17, 19] [(1, (.sl (l76 v2))), (2, (.fn 43 [] [])), (15, (.sl (l76 v1))), (16, (aI ((l76 v1).length : Int))), (17, (aI v3)), (19, (aI v3))] ?_
        refine zO (jX hT 4 (i76 h5)) ?_
        refine zE hT 4 [1, 2, 7, 8, 15, 16, 17] [(1, (.sl (l76 v2))), (2, (.fn 43 [] [])), (7, (aI v3)), (8, (.ptr 0 0)), (15, (.sl (l76 v1))), (16, (aI ((l76 v1).length : Int))), (17, (aI v3))] [.cells [(aI v4), (.str v5), (aI v6), (aI v7)]] ?_
        refine AE_seqN ?_
        refine AW_seq ?_
        obtain ⟨⟨v8, v9, v10, v11⟩, h6, h⟩ := bsm h
        try dsimp only at h
        refine AW_reg ?_
        refine zm hT 2 [1, 2, 8, 15, 16, 17, 22, 23] [(1, (.sl (l76 v2))), (2, (.fn 43 [] [])), (8, (.ptr 0 0)), (15, (.sl (l76 v1))), (16, (aI ((l76 v1).length : Int))), (17, (aI v3)), (22, (.sl (l76 v2))), (23, (aI v3))] ?_
        refine zO (jX hT 4 (i76 h6)) ?_
        refine zE hT 3 [1, 2, 8, 9, 15, 16, 17] [(1, (.sl (l76 v2))), (2, (.fn 43 [] [])), (8, (.ptr 0 0)), (9, (.ptr 1 0)), (15, (.sl (l76 v1))), (16, (aI ((l76 v1).length : Int))), (17, (aI v3))] [.cells [(aI v4), (.str v5), (aI v6), (aI v7)], .cells [(aI v8), (.str v9), (aI v10), (aI v11)]] ?_
        refine AE_seqN ?_
        refine AW_seq ?_
        obtain ⟨v12, h7, h⟩ := bsm h
        try dsimp only at h
        refine AW_reg ?_
        refine zm hT 3 [1, 2, 15, 16, 17, 26, 27, 28] [(1, (.sl (l76 v2))), (2, (.fn 43 [] [])), (15, (.sl (l76 v1))), (16, (aI ((l76 v1).length : Int))), (17, (aI v3)), (26, (.fn 43 [] [])), (27, (.agg [(aI v4), (.str v5), (aI v6), (aI v7)])), (28, (.agg [(aI v8), (.str v9), (aI v10), (aI v11)]))] ?_
        refine zO (jP Go.Proofs.Try.func43 (F43_ok k2 v4 v5 v6 v7 v8 v9 v10 v11 v12 h7)) ?_
        refine ze hT 1 [1, 2, 15, 16, 17, 30] [(1, (.sl (l76 v2))), (2, (.fn 43 [] [])), (15, (.sl (l76 v1))), (16, (aI ((l76 v1).length : Int))), (17, (aI v3)), (30, (.bool (!v12)))] ?_
        refine AE_seqN ?_
        rcases bif_split h with ⟨h8, h⟩ | ⟨h8, h⟩
        · refine zT h8 ?_
          refine zs hT [6] [(6, (.bool false))] ?_
          refine AE_ret ?_
          refine AE_blkR ?_
          refine AE_seqR ?_
          refine AE_seqR ?_
          refine AE_blkR ?_
          refine AE_seqR ?_
          refine zK [6] [(6, (.bool false))] ?_
          simp only [Option.some.injEq] at h
          subst h
          exact zEnd
        · refine zN h8 ?_
          refine AE_skip ?_
          refine AE_blkN ?_
          refine AE_seqN ?_
          refine zr hT [1, 2, 15, 16, 17] [(1, (.sl (l76 v2))), (2, (.fn 43 [] [])), (15, (.sl (l76 v1))), (16, (aI ((l76 v1).length : Int))), (17, (aI (IntKind.wrap .i64 (v3 + 1))))] ?_
          refine zK [1, 2, 15, 16, 17] [(1, (.sl (l76 v2))), (2, (.fn 43 [] [])), (15, (.sl (l76 v1))), (16, (aI ((l76 v1).length : Int))), (17, (aI (IntKind.wrap .i64 (v3 + 1))))] ?_
          refine zD 0 [] ?_
          exact AE_done ⟨k2, by omega, by omega, (IntKind.wrap .i64 (v3 + 1)), rfl, rfl, h⟩
      · refine zN h4 ?_
        refine AE_exit ?_
        refine AE_seqX ?_
        refine AE_seqX ?_
        refine AE_blkH ?_
        refine AE_seqN ?_
        refine zs hT [6] [(6, (.bool true))] ?_
        refine AE_ret ?_
        refine zK [6] [(6, (.bool true))] ?_
        simp only [Option.some.injEq] at h
        subst h
        exact zEnd

mutual
def F62 : Nat → Int → ByteArray → Int → ByteArray → (List T57) → Int → Int → ByteArray → Int → ByteArray → (List T57) → Int → Option (Bool)
  | 0, _, _, _, _, _, _, _, _, _, _, _, _ => none
  | k + 1, v1, v2, v3, v4, v5, v6, v7, v8, v9, v10, v11, v12 =>
    (bif (v1 == v7) then
      (bif (v2.toList == v8.toList) then
        (bif (v3 == v9) then
          (bif (v4.toList == v10.toList) then
            ((F84 k v5 v11).bind fun v13 =>
              some (v13))
          else
            some (false))
        else
          some (false))
      else
        some (false))
    else
      some (false))
def F84 : Nat → (List T57) → (List T57) → Option (Bool)
  | 0, _, _ => none
  | k + 1, v1, v2 =>
    (bif (((l57 v1).length : Int) != ((l57 v2).length : Int)) then
      some (false)
    else
      F84_l0 k v2 v1 0)
def F84_l0 : Nat → (List T57) → (List T57) → Int → Option (Bool)
  | 0, _, _, _ => none
  | k2 + 1, v2, v1, v3 =>
    (bif (decide (v3 < ((l57 v1).length : Int))) then
      ((idx v1 v3).bind fun ⟨v4, v5, v6, v7, v8, v9⟩ =>
        ((idx v2 v3).bind fun ⟨v10, v11, v12, v13, v14, v15⟩ =>
          ((F62 k2 v4 v5 v6 v7 v8 v9 v10 v11 v12 v13 v14 v15).bind fun v16 =>
            (bif (!v16) then
              some (false)
            else
              F84_l0 k2 v2 v1 (IntKind.wrap .i64 (v3 + 1))))))
    else
      some (true))
end

theorem F62_step (K0 : Nat) (ih_F62 : ∀ k, k < K0 → ∀ (v1 : Int) (v2 : ByteArray) (v3 : Int) (v4 : ByteArray) (v5 : (List T57)) (v6 : Int) (v7 : Int) (v8 : ByteArray) (v9 : Int) (v10 : ByteArray) (v11 : (List T57)) (v12 : Int) (r1 : Bool), F62 k v1 v2 v3 v4 v5 v6 v7 v8 v9 v10 v11 v12 = some (r1) → Fn prog 62 [(.agg [(aI v1), (.str v2), (aI v3), (.str v4), (.sl (l57 v5)), (aI v6)]), (.agg [(aI v7), (.str v8), (aI v9), (.str v10), (.sl (l57 v11)), (aI v12)])] [] (.bool r1) []) (ih_F84 : ∀ k, k < K0 → ∀ (v1 : (List T57)) (v2 : (List T57)) (r1 : Bool), F84 k v1 v2 = some (r1) → Fn prog 84 [(.sl (l57 v1)), (.sl (l57 v2)), (.fn 62 [] [])] [] (.bool r1) []) : ∀ (v1 : Int) (v2 : ByteArray) (v3 : Int) (v4 : ByteArray) (v5 : (List T57)) (v6 : Int) (v7 : Int) (v8 : ByteArray) (v9 : Int) (v10 : ByteArray) (v11 : (List T57)) (v12 : Int) (r1 : Bool), F62 K0 v1 v2 v3 v4 v5 v6 v7 v8 v9 v10 v11 v12 = some (r1) → Fn prog 62 [(.agg [(aI v1), (.str v2), (aI v3), (.str v4), (.sl (l57 v5)), (aI v6)]), (.agg [(aI v7), (.str v8), (aI v9), (.str v10), (.sl (l57 v11)), (aI v12)])] [] (.bool r1) [] := by
  intro v1 v2 v3 v4 v5 v6 v7 v8 v9 v10 v11 v12 r1 h
  cases K0 with
  | zero => rw [F62] at h; cases h
  | succ k =>
    have hk : k < k + 1 := Nat.lt_succ_self k
    rw [F62] at h
    refine Fn_bodyK hT Go.Proofs.Try.func62 (c := Go.Proofs.Try.f62.body.getD .skip) (by kernel_rfl) (by kernel_rfl) (by kernel_rfl) ?_
    refine zS hT [2, 3] [(2, (.ptr 0 0)), (3, (.ptr 1 0))] [.cells [(aI v1), (.str v2), (aI v3), (.str v4), (.sl (l57 v5)), (aI v6)], .cells [(aI v7), (.str v8), (aI v9), (.str v10), (.sl (l57 v11)), (aI v12)]] ?_
    refine AW_seq ?_
    rcases bif_split h with ⟨h1, h⟩ | ⟨h1, h⟩
    · rcases bif_split h with ⟨h2, h⟩ | ⟨h2, h⟩
      · rcases bif_split h with ⟨h3, h⟩ | ⟨h3, h⟩
        · rcases bif_split h with ⟨h4, h⟩ | ⟨h4, h⟩
          · obtain ⟨v13, h5, h⟩ := bsm h
            try dsimp only at h
            refine AW_reg ?_
            refine zm hT 5 [2, 3, 9] [(2, (.ptr 0 0)), (3, (.ptr 1 0)), (9, (.bool (v1 == v7)))] ?_
            refine zO (jQ hT h1) ?_
            refine zm hT 6 [2, 3, 16] [(2, (.ptr 0 0)), (3, (.ptr 1 0)), (16, (.bool (v2.toList == v8.toList)))] ?_
            refine zO (jQ hT h2) ?_
            refine zm hT 6 [2, 3, 23] [(2, (.ptr 0 0)), (3, (.ptr 1 0)), (23, (.bool (v3 == v9)))] ?_
            refine zO (jQ hT h3) ?_
            refine zm hT 6 [2, 3, 30] [(2, (.ptr 0 0)), (3, (.ptr 1 0)), (30, (.bool (v4.toList == v10.toList)))] ?_
            refine zO (jQ hT h4) ?_
            refine zm hT 4 [31, 33, 35] [(31, (.bool true)), (33, (.sl (l57 v5))), (35, (.sl (l57 v11)))] ?_
            refine zO (jP Go.Proofs.Try.func84 (ih_F84 k hk v5 v11 v13 h5)) ?_
            refine ze hT 2 [4] [(4, (.bool v13))] ?_
            refine AE_seqN ?_
            refine AE_ret ?_
            refine zK [4] [(4, (.bool v13))] ?_
            simp only [Option.some.injEq] at h
            subst h
            exact zEnd
          · refine AW_reg ?_
            refine zm hT 5 [2, 3, 9] [(2, (.ptr 0 0)), (3, (.ptr 1 0)), (9, (.bool (v1 == v7)))] ?_
            refine zO (jQ hT h1) ?_
            refine zm hT 6 [2, 3, 16] [(2, (.ptr 0 0)), (3, (.ptr 1 0)), (16, (.bool (v2.toList == v8.toList)))] ?_
            refine zO (jQ hT h2) ?_
            refine zm hT 6 [2, 3, 23] [(2, (.ptr 0 0)), (3, (.ptr 1 0)), (23, (.bool (v3 == v9)))] ?_
            refine zO (jQ hT h3) ?_
            refine zm hT 6 [2, 3, 30] [(2, (.ptr 0 0)), (3, (.ptr 1 0)), (30, (.bool (v4.toList == v10.toList)))] ?_
            refine zO (jQ hT h4) ?_
            refine ze hT 7 [4] [(4, (.bool false))] ?_
            refine AE_seqN ?_
            refine AE_ret ?_
            refine zK [4] [(4, (.bool false))] ?_
            simp only [Option.some.injEq] at h
            subst h
            exact zEnd
        · refine AW_reg ?_
          refine zm hT 5 [2, 3, 9] [(2, (.ptr 0 0)), (3, (.ptr 1 0)), (9, (.bool (v1 == v7)))] ?_
          refine zO (jQ hT h1) ?_
          refine zm hT 6 [2, 3, 16] [(2, (.ptr 0 0)), (3, (.ptr 1 0)), (16, (.bool (v2.toList == v8.toList)))] ?_
          refine zO (jQ hT h2) ?_
          refine zm hT 6 [2, 3, 23] [(2, (.ptr 0 0)), (3, (.ptr 1 0)), (23, (.bool (v3 == v9)))] ?_
          refine zO (jQ hT h3) ?_
          refine ze hT 14 [4] [(4, (.bool false))] ?_
          refine AE_seqN ?_
          refine AE_ret ?_
          refine zK [4] [(4, (.bool false))] ?_
          simp only [Option.some.injEq] at h
          subst h
          exact zEnd
      · refine AW_reg ?_
        refine zm hT 5 [2, 3, 9] [(2, (.ptr 0 0)), (3, (.ptr 1 0)), (9, (.bool (v1 == v7)))] ?_
        refine zO (jQ hT h1) ?_
        refine zm hT 6 [2, 3, 16] [(2, (.ptr 0 0)), (3, (.ptr 1 0)), (16, (.bool (v2.toList == v8.toList)))] ?_
        refine zO (jQ hT h2) ?_
        refine ze hT 21 [4] [(4, (.bool false))] ?_
        refine AE_seqN ?_
        refine AE_ret ?_
        refine zK [4] [(4, (.bool false))] ?_
        simp only [Option.some.injEq] at h
        subst h
        exact zEnd
    · refine AW_reg ?_
      refine zm hT 5 [2, 3, 9] [(2, (.ptr 0 0)), (3, (.ptr 1 0)), (9, (.bool (v1 == v7)))] ?_
      refine zO (jQ hT h1) ?_
      refine ze hT 28 [4] [(4, (.bool false))] ?_
      refine AE_seqN ?_
      refine AE_ret ?_
      refine zK [4] [(4, (.bool false))] ?_
      simp only [Option.some.injEq] at h
      subst h
      exact zEnd

theorem F84_step (K0 : Nat) (ih_F62 : ∀ k, k < K0 → ∀ (v1 : Int) (v2 : ByteArray) (v3 : Int) (v4 : ByteArray) (v5 : (List T57)) (v6 : Int) (v7 : Int) (v8 : ByteArray) (v9 : Int) (v10 : ByteArray) (v11 : (List T57)) (v12 : Int) (r1 : Bool), F62 k v1 v2 v3 v4 v5 v6 v7 v8 v9 v10 v11 v12 = some (r1) → Fn prog 62 [(.agg [(aI v1), (.str v2), (aI v3), (.str v4), (.sl (l57 v5)), (aI v6)]), (.agg [(aI v7), (.str v8), (aI v9), (.str v10), (.sl (l57 v11)), (aI v12)])] [] (.bool r1) []) (ih_F84 : ∀ k, k < K0 → ∀ (v1 : (List T57)) (v2 : (List T57)) (r1 : Bool), F84 k v1 v2 = some (r1) → Fn prog 84 [(.sl (l57 v1)), (.sl (l57 v2)), (.fn 62 [] [])] [] (.bool r1) []) : ∀ (v1 : (List T57)) (v2 : (List T57)) (r1 : Bool), F84 K0 v1 v2 = some (r1) → Fn prog 84 [(.sl (l57 v1)), (.sl (l57 v2)), (.fn 62 [] [])] [] (.bool r1) [] := by
  intro v1 v2 r1 h
  cases K0 with
  | zero => rw [F84] at h; cases h
  | succ k =>
    have hk : k < k + 1 := Nat.lt_succ_self k
    rw [F84] at h
    refine Fn_bodyK hT Go.Proofs.Try.func84 (c := Go.Proofs.Try.f84.body.getD .skip) (by kernel_rfl) (by kernel_rfl) (by kernel_rfl) ?_
    refine zs hT [0, 1, 2] [(0, (.sl (l57 v1))), (1, (.sl (l57 v2))), (2, (.fn 62 [] []))] ?_
    refine AW_seq ?_
    refine zs hT [0, 1, 2, 14] [(0, (.sl (l57 v1))), (1, (.sl (l57 v2))), (2, (.fn 62 [] [])), (14, (.bool (((l57 v1).length : Int) != ((l57 v2).length : Int))))] ?_
    rcases bif_split h with ⟨h1, h⟩ | ⟨h1, h⟩
    · refine zT h1 ?_
      refine zs hT [6] [(6, (.bool false))] ?_
      refine AE_ret ?_
      refine AE_seqR ?_
      refine zK [6] [(6, (.bool false))] ?_
      simp only [Option.some.injEq] at h
      subst h
      exact zEnd
    · refine zN h1 ?_
      refine AE_skip ?_
      refine AE_seqN ?_
      refine AW_seq ?_
      refine zs hT [1, 2, 15, 16, 17] [(1, (.sl (l57 v2))), (2, (.fn 62 [] [])), (15, (.sl (l57 v1))), (16, (aI ((l57 v1).length : Int))), (17, (aI 0))] ?_
      refine AW_block ?_
      refine zKw [1, 2, 15, 16, 17] [(1, (.sl (l57 v2))), (2, (.fn 62 [] [])), (15, (.sl (l57 v1))), (16, (aI ((l57 v1).length : Int))), (17, (aI 0))] ?_
      refine AW_loop (fun n env L => n ≤ k ∧ ∃ (v3 : Int), env = [(1, (.sl (l57 v2))), (2, (.fn 62 [] [])), (15, (.sl (l57 v1))), (16, (aI ((l57 v1).length : Int))), (17, (aI v3))] ∧ L = [] ∧ F84_l0 n v2 v1 v3 = some (r1)) k ⟨Nat.le_refl _, 0, rfl, rfl, h⟩ ?_
      rintro n _ _ ⟨hn, v3, rfl, rfl, h⟩
      cases n with
      | zero => rw [F84_l0] at h; cases h
      | succ k2 =>
        have h3 : k2 < (k + 1) := by omega
        rw [F84_l0] at h
        refine zs hT [1, 2, 15, 16, 17, 18] [(1, (.sl (l57 v2))), (2, (.fn 62 [] [])), (15, (.sl (l57 v1))), (16, (aI ((l57 v1).length : Int))), (17, (aI v3)), (18, (.bool (decide (v3 < ((l57 v1).length : Int)))))] ?_
        refine AW_seq ?_
        rcases bif_split h with ⟨h4, h⟩ | ⟨h4, h⟩
        · refine zT h4 ?_
          refine AE_skip ?_
          refine AE_seqN ?_
          refine AW_seq ?_
          refine AW_block ?_
          refine AW_seq ?_
          obtain ⟨⟨v4, v5, v6, v7, v8, v9⟩, h5, h⟩ := bsm h
          try dsimp only at h
          refine AW_reg ?_
          refine zm hT 1 [1, 2, 15, 16, 17, 19] [(1, (.sl (l57 v2))), (2, (.fn 62 [] [])), (15, (.sl (l57 v1))), (16, (aI ((l57 v1).length : Int))), (17, (aI v3)), (19, (aI v3))] ?_
          refine zO (jX hT 6 (i57 h5)) ?_
          refine zE hT 4 [1, 2, 7, 8, 15, 16, 17] [(1, (.sl (l57 v2))), (2, (.fn 62 [] [])), (7, (aI v3)), (8, (.ptr 0 0)), (15, (.sl (l57 v1))), (16, (aI ((l57 v1).length : Int))), (17, (aI v3))] [.cells [(aI v4), (.str v5), (aI v6), (.str v7), (.sl (l57 v8)), (aI v9)]] ?_
          refine AE_seqN ?_
          refine AW_seq ?_
          obtain ⟨⟨v10, v11, v12, v13, v14, v15⟩, h6, h⟩ := bsm h
          try dsimp only at h
          refine AW_reg ?_
          refine zm hT 2 [1, 2, 8, 15, 16, 17, 22, 23] [(1, (.sl (l57 v2))), (2, (.fn 62 [] [])), (8, (.ptr 0 0)), (15, (.sl (l57 v1))), (16, (aI ((l57 v1).length : Int))), (17, (aI v3)), (22, (.sl (l57 v2))), (23, (aI v3))] ?_
          refine zO (jX hT 6 (i57 h6)) ?_
          refine zE hT 3 [1, 2, 8, 9, 15, 16, 17] [(1, (.sl (l57 v2))), (2, (.fn 62 [] [])), (8, (.ptr 0 0)), (9, (.ptr 1 0)), (15, (.sl (l57 v1))), (16, (aI ((l57 v1).length : Int))), (17, (aI v3))] [.cells [(aI v4), (.str v5), (aI v6), (.str v7), (.sl (l57 v8)), (aI v9)], .cells [(aI v10), (.str v11), (aI v12), (.str v13), (.sl (l57 v14)), (aI v15)]] ?_
          refine AE_seqN ?_
          refine AW_seq ?_
          obtain ⟨v16, h7, h⟩ := bsm h
          try dsimp only at h
          refine AW_reg ?_
          refine zm hT 3 [1, 2, 15, 16, 17, 26, 27, 28] [(1, (.sl (l57 v2))), (2, (.fn 62 [] [])), (15, (.sl (l57 v1))), (16, (aI ((l57 v1).length : Int))), (17, (aI v3)), (26, (.fn 62 [] [])), (27, (.agg [(aI v4), (.str v5), (aI v6), (.str v7), (.sl (l57 v8)), (aI v9)])), (28, (.agg [(aI v10), (.str v11), (aI v12), (.str v13), (.sl (l57 v14)), (aI v15)]))] ?_
          refine zO (jP Go.Proofs.Try.func62 (ih_F62 k2 h3 v4 v5 v6 v7 v8 v9 v10 v11 v12 v13 v14 v15 v16 h7)) ?_
          refine ze hT 1 [1, 2, 15, 16, 17, 30] [(1, (.sl (l57 v2))), (2, (.fn 62 [] [])), (15, (.sl (l57 v1))), (16, (aI ((l57 v1).length : Int))), (17, (aI v3)), (30, (.bool (!v16)))] ?_
          refine AE_seqN ?_
          rcases bif_split h with ⟨h8, h⟩ | ⟨h8, h⟩
          · refine zT h8 ?_
            refine zs hT [6] [(6, (.bool false))] ?_
            refine AE_ret ?_
            refine AE_blkR ?_
            refine AE_seqR ?_
            refine AE_seqR ?_
            refine AE_blkR ?_
            refine AE_seqR ?_
            refine zK [6] [(6, (.bool false))] ?_
            simp only [Option.some.injEq] at h
            subst h
            exact zEnd
          · refine zN h8 ?_
            refine AE_skip ?_
            refine AE_blkN ?_
            refine AE_seqN ?_
            refine zr hT [1, 2, 15, 16, 17] [(1, (.sl (l57 v2))), (2, (.fn 62 [] [])), (15, (.sl (l57 v1))), (16, (aI ((l57 v1).length : Int))), (17, (aI (IntKind.wrap .i64 (v3 + 1))))] ?_
            refine zK [1, 2, 15, 16, 17] [(1, (.sl (l57 v2))), (2, (.fn 62 [] [])), (15, (.sl (l57 v1))), (16, (aI ((l57 v1).length : Int))), (17, (aI (IntKind.wrap .i64 (v3 + 1))))] ?_
            refine zD 0 [] ?_
            exact AE_done ⟨k2, by omega, by omega, (IntKind.wrap .i64 (v3 + 1)), rfl, rfl, h⟩
        · refine zN h4 ?_
          refine AE_exit ?_
          refine AE_seqX ?_
          refine AE_seqX ?_
          refine AE_blkH ?_
          refine AE_seqN ?_
          refine zs hT [6] [(6, (.bool true))] ?_
          refine AE_ret ?_
          refine zK [6] [(6, (.bool true))] ?_
          simp only [Option.some.injEq] at h
          subst h
          exact zEnd

theorem F62_all (K0 : Nat) : (∀ (v1 : Int) (v2 : ByteArray) (v3 : Int) (v4 : ByteArray) (v5 : (List T57)) (v6 : Int) (v7 : Int) (v8 : ByteArray) (v9 : Int) (v10 : ByteArray) (v11 : (List T57)) (v12 : Int) (r1 : Bool), F62 K0 v1 v2 v3 v4 v5 v6 v7 v8 v9 v10 v11 v12 = some (r1) → Fn prog 62 [(.agg [(aI v1), (.str v2), (aI v3), (.str v4), (.sl (l57 v5)), (aI v6)]), (.agg [(aI v7), (.str v8), (aI v9), (.str v10), (.sl (l57 v11)), (aI v12)])] [] (.bool r1) []) ∧ (∀ (v1 : (List T57)) (v2 : (List T57)) (r1 : Bool), F84 K0 v1 v2 = some (r1) → Fn prog 84 [(.sl (l57 v1)), (.sl (l57 v2)), (.fn 62 [] [])] [] (.bool r1) []) := by
  induction K0 using Nat.strongRecOn with
  | ind K0 ih => exact ⟨F62_step K0 (fun k hk => (ih k hk).1) (fun k hk => (ih k hk).2), F84_step K0 (fun k hk => (ih k hk).1) (fun k hk => (ih k hk).2)⟩

theorem F62_ok (K0 : Nat) : ∀ (v1 : Int) (v2 : ByteArray) (v3 : Int) (v4 : ByteArray) (v5 : (List T57)) (v6 : Int) (v7 : Int) (v8 : ByteArray) (v9 : Int) (v10 : ByteArray) (v11 : (List T57)) (v12 : Int) (r1 : Bool), F62 K0 v1 v2 v3 v4 v5 v6 v7 v8 v9 v10 v11 v12 = some (r1) → Fn prog 62 [(.agg [(aI v1), (.str v2), (aI v3), (.str v4), (.sl (l57 v5)), (aI v6)]), (.agg [(aI v7), (.str v8), (aI v9), (.str v10), (.sl (l57 v11)), (aI v12)])] [] (.bool r1) [] := (F62_all K0).1

theorem F84_ok (K0 : Nat) : ∀ (v1 : (List T57)) (v2 : (List T57)) (r1 : Bool), F84 K0 v1 v2 = some (r1) → Fn prog 84 [(.sl (l57 v1)), (.sl (l57 v2)), (.fn 62 [] [])] [] (.bool r1) [] := (F62_all K0).2

mutual
def F46 : Nat → (List T69) → (List T69) → Option (Bool)
  | 0, _, _ => none
  | k + 1, v1, v2 =>
    (bif (((l69 v1).length : Int) != ((l69 v2).length : Int)) then
      some (false)
    else
      F46_l0 k v2 v1 0)
def F46_l0 : Nat → (List T69) → (List T69) → Int → Option (Bool)
  | 0, _, _, _ => none
  | k2 + 1, v2, v1, v3 =>
    (bif (decide (v3 < ((l69 v1).length : Int))) then
      ((idx v1 v3).bind fun ⟨v4, v5, v6, v7, v8, v9, v10⟩ =>
        ((idx v2 v3).bind fun ⟨v11, v12, v13, v14, v15, v16, v17⟩ =>
          ((F47 k2 v4 v5 v6 v7 v8 v9 v10 v11 v12 v13 v14 v15 v16 v17).bind fun v18 =>
            (bif (!v18) then
              some (false)
            else
              F46_l0 k2 v2 v1 (IntKind.wrap .i64 (v3 + 1))))))
    else
      some (true))
def F47 : Nat → Int → ByteArray → ByteArray → (List T57) → (List T69) → (List T69) → Int → Int → ByteArray → ByteArray → (List T57) → (List T69) → (List T69) → Int → Option (Bool)
  | 0, _, _, _, _, _, _, _, _, _, _, _, _, _, _ => none
  | k + 1, v1, v2, v3, v4, v5, v6, v7, v8, v9, v10, v11, v12, v13, v14 =>
    (bif (v1 == v8) then
      (bif (v2.toList == v9.toList) then
        (bif (v3.toList == v10.toList) then
          ((F84 k v4 v11).bind fun v15 =>
            (bif v15 then
              ((F46 k v5 v12).bind fun v16 =>
                (bif v16 then
                  ((F46 k v6 v13).bind fun v17 =>
                    some (v17))
                else
                  some (false)))
            else
              some (false)))
        else
          some (false))
      else
        some (false))
    else
      some (false))
end

theorem F47_step (K0 : Nat) (ih_F47 : ∀ k, k < K0 → ∀ (v1 : Int) (v2 : ByteArray) (v3 : ByteArray) (v4 : (List T57)) (v5 : (List T69)) (v6 : (List T69)) (v7 : Int) (v8 : Int) (v9 : ByteArray) (v10 : ByteArray) (v11 : (List T57)) (v12 : (List T69)) (v13 : (List T69)) (v14 : Int) (r1 : Bool), F47 k v1 v2 v3 v4 v5 v6 v7 v8 v9 v10 v11 v12 v13 v14 = some (r1) → Fn prog 47 [(.agg [(aI v1), (.str v2), (.str v3), (.sl (l57 v4)), (.sl (l69 v5)), (.sl (l69 v6)), (aI v7)]), (.agg [(aI v8), (.str v9), (.str v10), (.sl (l57 v11)), (.sl (l69 v12)), (.sl (l69 v13)), (aI v14)])] [] (.bool r1) []) (ih_F46 : ∀ k, k < K0 → ∀ (v1 : (List T69)) (v2 : (List T69)) (r1 : Bool), F46 k v1 v2 = some (r1) → Fn prog 46 [(.sl (l69 v1)), (.sl (l69 v2)), (.fn 47 [] [])] [] (.bool r1) []) : ∀ (v1 : Int) (v2 : ByteArray) (v3 : ByteArray) (v4 : (List T57)) (v5 : (List T69)) (v6 : (List T69)) (v7 : Int) (v8 : Int) (v9 : ByteArray) (v10 : ByteArray) (v11 : (List T57)) (v12 : (List T69)) (v13 : (List T69)) (v14 : Int) (r1 : Bool), F47 K0 v1 v2 v3 v4 v5 v6 v7 v8 v9 v10 v11 v12 v13 v14 = some (r1) → Fn prog 47 [(.agg [(aI v1), (.str v2), (.str v3), (.sl (l57 v4)), (.sl (l69 v5)), (.sl (l69 v6)), (aI v7)]), (.agg [(aI v8), (.str v9), (.str v10), (.sl (l57 v11)), (.sl (l69 v12)), (.sl (l69 v13)), (aI v14)])] [] (.bool r1) [] := by
  intro v1 v2 v3 v4 v5 v6 v7 v8 v9 v10 v11 v12 v13 v14 r1 h
  cases K0 with
  | zero => rw [F47] at h; cases h
  | succ k =>
    have hk : k < k + 1 := Nat.lt_succ_self k
    rw [F47] at h
    refine Fn_bodyK hT Go.Proofs.Try.func47 (c := Go.Proofs.Try.f47.body.getD .skip) (by kernel_rfl) (by kernel_rfl) (by kernel_rfl) ?_
    refine zS hT [2, 3] [(2, (.ptr 0 0)), (3, (.ptr 1 0))] [.cells [(aI v1), (.str v2), (.str v3), (.sl (l57 v4)), (.sl (l69 v5)), (.sl (l69 v6)), (aI v7)], .cells [(aI v8), (.str v9), (.str v10), (.sl (l57 v11)), (.sl (l69 v12)), (.sl (l69 v13)), (aI v14)]] ?_
    refine AW_seq ?_
    rcases bif_split h with ⟨h1, h⟩ | ⟨h1, h⟩
    · rcases bif_split h with ⟨h2, h⟩ | ⟨h2, h⟩
      · rcases bif_split h with ⟨h3, h⟩ | ⟨h3, h⟩
        · obtain ⟨v15, h4, h⟩ := bsm h
          try dsimp only at h
          rcases bif_split h with ⟨h5, h⟩ | ⟨h5, h⟩
          · obtain ⟨v16, h6, h⟩ := bsm h
            try dsimp only at h
            rcases bif_split h with ⟨h7, h⟩ | ⟨h7, h⟩
            · obtain ⟨v17, h8, h⟩ := bsm h
              try dsimp only at h
              refine AW_reg ?_
              refine zm hT 5 [2, 3, 9] [(2, (.ptr 0 0)), (3, (.ptr 1 0)), (9, (.bool (v1 == v8)))] ?_
              refine zO (jQ hT h1) ?_
              refine zm hT 6 [2, 3, 16] [(2, (.ptr 0 0)), (3, (.ptr 1 0)), (16, (.bool (v2.toList == v9.toList)))] ?_
              refine zO (jQ hT h2) ?_
              refine zm hT 6 [2, 3, 23] [(2, (.ptr 0 0)), (3, (.ptr 1 0)), (23, (.bool (v3.toList == v10.toList)))] ?_
              refine zO (jQ hT h3) ?_
              refine zm hT 4 [2, 3, 24, 26, 28] [(2, (.ptr 0 0)), (3, (.ptr 1 0)), (24, (.bool true)), (26, (.sl (l57 v4))), (28, (.sl (l57 v11)))] ?_
              refine zO (jP Go.Proofs.Try.func84 (F84_ok k v4 v11 v15 h4)) ?_
              refine zm hT 1 [2, 3, 30] [(2, (.ptr 0 0)), (3, (.ptr 1 0)), (30, (.bool v15))] ?_
              refine zO (jQ hT h5) ?_
              refine zm hT 4 [2, 3, 31, 33, 35] [(2, (.ptr 0 0)), (3, (.ptr 1 0)), (31, (.bool true)), (33, (.sl (l69 v5))), (35, (.sl (l69 v12)))] ?_
              refine zO (jP Go.Proofs.Try.func46 (ih_F46 k hk v5 v12 v16 h6)) ?_
              refine zm hT 1 [2, 3, 37] [(2, (.ptr 0 0)), (3, (.ptr 1 0)), (37, (.bool v16))] ?_
              refine zO (jQ hT h7) ?_
              refine zm hT 4 [38, 40, 42] [(38, (.bool true)), (40, (.sl (l69 v6))), (42, (.sl (l69 v13)))] ?_
              refine zO (jP Go.Proofs.Try.func46 (ih_F46 k hk v6 v13 v17 h8)) ?_
              refine ze hT 2 [4] [(4, (.bool v17))] ?_
              refine AE_seqN ?_
              refine AE_ret ?_
              refine zK [4] [(4, (.bool v17))] ?_
              simp only [Option.some.injEq] at h
              subst h
              exact zEnd
            · refine AW_reg ?_
              refine zm hT 5 [2, 3, 9] [(2, (.ptr 0 0)), (3, (.ptr 1 0)), (9, (.bool (v1 == v8)))] ?_
              refine zO (jQ hT h1) ?_
              refine zm hT 6 [2, 3, 16] [(2, (.ptr 0 0)), (3, (.ptr 1 0)), (16, (.bool (v2.toList == v9.toList)))] ?_
              refine zO (jQ hT h2) ?_
              refine zm hT 6 [2, 3, 23] [(2, (.ptr 0 0)), (3, (.ptr 1 0)), (23, (.bool (v3.toList == v10.toList)))] ?_
              refine zO (jQ hT h3) ?_
              refine zm hT 4 [2, 3, 24, 26, 28] [(2, (.ptr 0 0)), (3, (.ptr 1 0)), (24, (.bool true)), (26, (.sl (l57 v4))), (28, (.sl (l57 v11)))] ?_
              refine zO (jP Go.Proofs.Try.func84 (F84_ok k v4 v11 v15 h4)) ?_
              refine zm hT 1 [2, 3, 30] [(2, (.ptr 0 0)), (3, (.ptr 1 0)), (30, (.bool v15))] ?_
              refine zO (jQ hT h5) ?_
              refine zm hT 4 [2, 3, 31, 33, 35] [(2, (.ptr 0 0)), (3, (.ptr 1 0)), (31, (.bool true)), (33, (.sl (l69 v5))), (35, (.sl (l69 v12)))] ?_
              refine zO (jP Go.Proofs.Try.func46 (ih_F46 k hk v5 v12 v16 h6)) ?_
              refine zm hT 1 [2, 3, 37] [(2, (.ptr 0 0)), (3, (.ptr 1 0)), (37, (.bool v16))] ?_
              refine zO (jQ hT h7) ?_
              refine ze hT 7 [4] [(4, (.bool false))] ?_
              refine AE_seqN ?_
              refine AE_ret ?_
              refine zK [4] [(4, (.bool false))] ?_
              simp only [Option.some.injEq] at h
              subst h
              exact zEnd
          · refine AW_reg ?_
            refine zm hT 5 [2, 3, 9] [(2, (.ptr 0 0)), (3, (.ptr 1 0)), (9, (.bool (v1 == v8)))] ?_
            refine zO (jQ hT h1) ?_
            refine zm hT 6 [2, 3, 16] [(2, (.ptr 0 0)), (3, (.ptr 1 0)), (16, (.bool (v2.toList == v9.toList)))] ?_
            refine zO (jQ hT h2) ?_
            refine zm hT 6 [2, 3, 23] [(2, (.ptr 0 0)), (3, (.ptr 1 0)), (23, (.bool (v3.toList == v10.toList)))] ?_
            refine zO (jQ hT h3) ?_
            refine zm hT 4 [2, 3, 24, 26, 28] [(2, (.ptr 0 0)), (3, (.ptr 1 0)), (24, (.bool true)), (26, (.sl (l57 v4))), (28, (.sl (l57 v11)))] ?_
            refine zO (jP Go.Proofs.Try.func84 (F84_ok k v4 v11 v15 h4)) ?_
            refine zm hT 1 [2, 3, 30] [(2, (.ptr 0 0)), (3, (.ptr 1 0)), (30, (.bool v15))] ?_
            refine zO (jQ hT h5) ?_
            refine ze hT 14 [4] [(4, (.bool false))] ?_
            refine AE_seqN ?_
            refine AE_ret ?_
            refine zK [4] [(4, (.bool false))] ?_
            simp only [Option.some.injEq] at h
            subst h
            exact zEnd
        · refine AW_reg ?_
          refine zm hT 5 [2, 3, 9] [(2, (.ptr 0 0)), (3, (.ptr 1 0)), (9, (.bool (v1 == v8)))] ?_
          refine zO (jQ hT h1) ?_
          refine zm hT 6 [2, 3, 16] [(2, (.ptr 0 0)), (3, (.ptr 1 0)), (16, (.bool (v2.toList == v9.toList)))] ?_
          refine zO (jQ hT h2) ?_
          refine zm hT 6 [2, 3, 23] [(2, (.ptr 0 0)), (3, (.ptr 1 0)), (23, (.bool (v3.toList == v10.toList)))] ?_
          refine zO (jQ hT h3) ?_
          refine ze hT 21 [4] [(4, (.bool false))] ?_
          refine AE_seqN ?_
          refine AE_ret ?_
          refine zK [4] [(4, (.bool false))] ?_
          simp only [Option.some.injEq] at h
          subst h
          exact zEnd
      · refine AW_reg ?_
        refine zm hT 5 [2, 3, 9] [(2, (.ptr 0 0)), (3, (.ptr 1 0)), (9, (.bool (v1 == v8)))] ?_
        refine zO (jQ hT h1) ?_
        refine zm hT 6 [2, 3, 16] [(2, (.ptr 0 0)), (3, (.ptr 1 0)), (16, (.bool (v2.toList == v9.toList)))] ?_
        refine zO (jQ hT h2) ?_
        refine ze hT 28 [4] [(4, (.bool false))] ?_
        refine AE_seqN ?_
        refine AE_ret ?_
        refine zK [4] [(4, (.bool false))] ?_
        simp only [Option.some.injEq] at h
        subst h
        exact zEnd
    · refine AW_reg ?_
      refine zm hT 5 [2, 3, 9] [(2, (.ptr 0 0)), (3, (.ptr 1 0)), (9, (.bool (v1 == v8)))] ?_
      refine zO (jQ hT h1) ?_
      refine ze hT 35 [4] [(4, (.bool false))] ?_
      refine AE_seqN ?_
      refine AE_ret ?_
      refine zK [4] [(4, (.bool false))] ?_
      simp only [Option.some.injEq] at h
      subst h
      exact zEnd

theorem F46_step (K0 : Nat) (ih_F47 : ∀ k, k < K0 → ∀ (v1 : Int) (v2 : ByteArray) (v3 : ByteArray) (v4 : (List T57)) (v5 : (List T69)) (v6 : (List T69)) (v7 : Int) (v8 : Int) (v9 : ByteArray) (v10 : ByteArray) (v11 : (List T57)) (v12 : (List T69)) (v13 : (List T69)) (v14 : Int) (r1 : Bool), F47 k v1 v2 v3 v4 v5 v6 v7 v8 v9 v10 v11 v12 v13 v14 = some (r1) → Fn prog 47 [(.agg [(aI v1), (.str v2), (.str v3), (.sl (l57 v4)), (.sl (l69 v5)), (.sl (l69 v6)), (aI v7)]), (.agg [(aI v8), (.str v9), (.str v10), (.sl (l57 v11)), (.sl (l69 v12)), (.sl (l69 v13)), (aI v14)])] [] (.bool r1) []) (ih_F46 : ∀ k, k < K0 → ∀ (v1 : (List T69)) (v2 : (List T69)) (r1 : Bool), F46 k v1 v2 = some (r1) → Fn prog 46 [(.sl (l69 v1)), (.sl (l69 v2)), (.fn 47 [] [])] [] (.bool r1) []) : ∀ (v1 : (List T69)) (v2 : (List T69)) (r1 : Bool), F46 K0 v1 v2 = some (r1) → Fn prog 46 [(.sl (l69 v1)), (.sl (l69 v2)), (.fn 47 [] [])] [] (.bool r1) [] := by
  intro v1 v2 r1 h
  cases K0 with
  | zero => rw [F46] at h; cases h
  | succ k =>
    have hk : k < k + 1 := Nat.lt_succ_self k
    rw [F46] at h
    refine Fn_bodyK hT Go.Proofs.Try.func46 (c := Go.Proofs.Try.f46.body.getD .skip) (by kernel_rfl) (by kernel_rfl) (by kernel_rfl) ?_
    refine zs hT [0, 1, 2] [(0, (.sl (l69 v1))), (1, (.sl (l69 v2))), (2, (.fn 47 [] []))] ?_
    refine AW_seq ?_
    refine zs hT [0, 1, 2, 14] [(0, (.sl (l69 v1))), (1, (.sl (l69 v2))), (2, (.fn 47 [] [])), (14, (.bool (((l69 v1).length : Int) != ((l69 v2).length : Int))))] ?_
    rcases bif_split h with ⟨h1, h⟩ | ⟨h1, h⟩
    · refine zT h1 ?_
      refine zs hT [6] [(6, (.bool false))] ?_
      refine AE_ret ?_
      refine AE_seqR ?_
      refine zK [6] [(6, (.bool false))] ?_
      simp only [Option.some.injEq] at h
      subst h
      exact zEnd
    · refine zN h1 ?_
      refine AE_skip ?_
      refine AE_seqN ?_
      refine AW_seq ?_
      refine zs hT [1, 2, 15, 16, 17] [(1, (.sl (l69 v2))), (2, (.fn 47 [] [])), (15, (.sl (l69 v1))), (16, (aI ((l69 v1).length : Int))), (17, (aI 0))] ?_
      refine AW_block ?_
      refine zKw [1, 2, 15, 16, 17] [(1, (.sl (l69 v2))), (2, (.fn 47 [] [])), (15, (.sl (l69 v1))), (16, (aI ((l69 v1).length : Int))), (17, (aI 0))] ?_
      refine AW_loop (fun n env L => n ≤ k ∧ ∃ (v3 : Int), env = [(1, (.sl (l69 v2))), (2, (.fn 47 [] [])), (15, (.sl (l69 v1))), (16, (aI ((l69 v1).length : Int))), (17, (aI v3))] ∧ L = [] ∧ F46_l0 n v2 v1 v3 = some (r1)) k ⟨Nat.le_refl _, 0, rfl, rfl, h⟩ ?_
      rintro n _ _ ⟨hn, v3, rfl, rfl, h⟩
      cases n with
      | zero => rw [F46_l0] at h; cases h
      | succ k2 =>
        have h3 : k2 < (k + 1) := by omega
        rw [F46_l0] at h
        refine zs hT [1, 2, 15, 16, 17, 18] [(1, (.sl (l69 v2))), (2, (.fn 47 [] [])), (15, (.sl (l69 v1))), (16, (aI ((l69 v1).length : Int))), (17, (aI v3)), (18, (.bool (decide (v3 < ((l69 v1).length : Int)))))] ?_
        refine AW_seq ?_
        rcases bif_split h with ⟨h4, h⟩ | ⟨h4, h⟩
        · refine zT h4 ?_
          refine AE_skip ?_
          refine AE_seqN ?_
          refine AW_seq ?_
          refine AW_block ?_
          refine AW_seq ?_
          obtain ⟨⟨v4, v5, v6, v7, v8, v9, v10⟩, h5, h⟩ := bsm h
          try dsimp only at h
          refine AW_reg ?_
          refine zm hT 1 [1, 2, 15, 16, 17, 19] [(1, (.sl (l69 v2))), (2, (.fn 47 [] [])), (15, (.sl (l69 v1))), (16, (aI ((l69 v1).length : Int))), (17, (aI v3)), (19, (aI v3))] ?_
          refine zO (jX hT 7 (i69 h5)) ?_
          refine zE hT 4 [1, 2, 7, 8, 15, 16, 17] [(1, (.sl (l69 v2))), (2, (.fn 47 [] [])), (7, (aI v3)), (8, (.ptr 0 0)), (15, (.sl (l69 v1))), (16, (aI ((l69 v1).length : Int))), (17, (aI v3))] [.cells [(aI v4), (.str v5), (.str v6), (.sl (l57 v7)), (.sl (l69 v8)), (.sl (l69 v9)), (aI v10)]] ?_
          refine AE_seqN ?_
          refine AW_seq ?_
          obtain ⟨⟨v11, v12, v13, v14, v15, v16, v17⟩, h6, h⟩ := bsm h
          try dsimp only at h
          refine AW_reg ?_
          refine zm hT 2 [1, 2, 8, 15, 16, 17, 22, 23] [(1, (.sl (l69 v2))), (2, (.fn 47 [] [])), (8, (.ptr 0 0)), (15, (.sl (l69 v1))), (16, (aI ((l69 v1).length : Int))), (17, (aI v3)), (22, (.sl (l69 v2))), (23, (aI v3))] ?_
          refine zO (jX hT 7 (i69 h6)) ?_
          refine zE hT 3 [1, 2, 8, 9, 15, 16, 17] [(1, (.sl (l69 v2))), (2, (.fn 47 [] [])), (8, (.ptr 0 0)), (9, (.ptr 1 0)), (15, (.sl (l69 v1))), (16, (aI ((l69 v1).length : Int))), (17, (aI v3))] [.cells [(aI v4), (.str v5), (.str v6), (.sl (l57 v7)), (.sl (l69 v8)), (.sl (l69 v9)), (aI v10)], .cells [(aI v11), (.str v12), (.str v13), (.sl (l57 v14)), (.sl (l69 v15)), (.sl (l69 v16)), (aI v17)]] ?_
          refine AE_seqN ?_
          refine AW_seq ?_
          obtain ⟨v18, h7, h⟩ := bsm h
          try dsimp only at h
          refine AW_reg ?_
          refine zm hT 3 [1, 2, 15, 16, 17, 26, 27, 28] [(1, (.sl (l69 v2))), (2, (.fn 47 [] [])), (15, (.sl (l69 v1))), (16, (aI ((l69 v1).length : Int))), (17, (aI v3)), (26, (.fn 47 [] [])), (27, (.agg [(aI v4), (.str v5), (.str v6), (.sl (l57 v7)), (.sl (l69 v8)), (.sl (l69 v9)), (aI v10)])), (28, (.agg [(aI v11), (.str v12), (.str v13), (.sl (l57 v14)), (.sl (l69 v15)), (.sl (l69 v16)), (aI v17)]))] ?_
          refine zO (jP Go.Proofs.Try.func47 (ih_F47 k2 h3 v4 v5 v6 v7 v8 v9 v10 v11 v12 v13 v14 v15 v16 v17 v18 h7)) ?_
          refine ze hT 1 [1, 2, 15, 16, 17, 30] [(1, (.sl (l69 v2))), (2, (.fn 47 [] [])), (15, (.sl (l69 v1))), (16, (aI ((l69 v1).length : Int))), (17, (aI v3)), (30, (.bool (!v18)))] ?_
          refine AE_seqN ?_
          rcases bif_split h with ⟨h8, h⟩ | ⟨h8, h⟩
          · refine zT h8 ?_
            refine zs hT [6] [(6, (.bool false))] ?_
            refine AE_ret ?_
            refine AE_blkR ?_
            refine AE_seqR ?_
            refine AE_seqR ?_
            refine AE_blkR ?_
            refine AE_seqR ?_
            refine zK [6] [(6, (.bool false))] ?_
            simp only [Option.some.injEq] at h
            subst h
            exact zEnd
          · refine zN h8 ?_
            refine AE_skip ?_
            refine AE_blkN ?_
            refine AE_seqN ?_
            refine zr hT [1, 2, 15, 16, 17] [(1, (.sl (l69 v2))), (2, (.fn 47 [] [])), (15, (.sl (l69 v1))), (16, (aI ((l69 v1).length : Int))), (17, (aI (IntKind.wrap .i64 (v3 + 1))))] ?_
            refine zK [1, 2, 15, 16, 17] [(1, (.sl (l69 v2))), (2, (.fn 47 [] [])), (15, (.sl (l69 v1))), (16, (aI ((l69 v1).length : Int))), (17, (aI (IntKind.wrap .i64 (v3 + 1))))] ?_
            refine zD 0 [] ?_
            exact AE_done ⟨k2, by omega, by omega, (IntKind.wrap .i64 (v3 + 1)), rfl, rfl, h⟩
        · refine zN h4 ?_
          refine AE_exit ?_
          refine AE_seqX ?_
          refine AE_seqX ?_
          refine AE_blkH ?_
          refine AE_seqN ?_
          refine zs hT [6] [(6, (.bool true))] ?_
          refine AE_ret ?_
          refine zK [6] [(6, (.bool true))] ?_
          simp only [Option.some.injEq] at h
          subst h
          exact zEnd

theorem F47_all (K0 : Nat) : (∀ (v1 : Int) (v2 : ByteArray) (v3 : ByteArray) (v4 : (List T57)) (v5 : (List T69)) (v6 : (List T69)) (v7 : Int) (v8 : Int) (v9 : ByteArray) (v10 : ByteArray) (v11 : (List T57)) (v12 : (List T69)) (v13 : (List T69)) (v14 : Int) (r1 : Bool), F47 K0 v1 v2 v3 v4 v5 v6 v7 v8 v9 v10 v11 v12 v13 v14 = some (r1) → Fn prog 47 [(.agg [(aI v1), (.str v2), (.str v3), (.sl (l57 v4)), (.sl (l69 v5)), (.sl (l69 v6)), (aI v7)]), (.agg [(aI v8), (.str v9), (.str v10), (.sl (l57 v11)), (.sl (l69 v12)), (.sl (l69 v13)), (aI v14)])] [] (.bool r1) []) ∧ (∀ (v1 : (List T69)) (v2 : (List T69)) (r1 : Bool), F46 K0 v1 v2 = some (r1) → Fn prog 46 [(.sl (l69 v1)), (.sl (l69 v2)), (.fn 47 [] [])] [] (.bool r1) []) := by
  induction K0 using Nat.strongRecOn with
  | ind K0 ih => exact ⟨F47_step K0 (fun k hk => (ih k hk).1) (fun k hk => (ih k hk).2), F46_step K0 (fun k hk => (ih k hk).1) (fun k hk => (ih k hk).2)⟩

theorem F47_ok (K0 : Nat) : ∀ (v1 : Int) (v2 : ByteArray) (v3 : ByteArray) (v4 : (List T57)) (v5 : (List T69)) (v6 : (List T69)) (v7 : Int) (v8 : Int) (v9 : ByteArray) (v10 : ByteArray) (v11 : (List T57)) (v12 : (List T69)) (v13 : (List T69)) (v14 : Int) (r1 : Bool), F47 K0 v1 v2 v3 v4 v5 v6 v7 v8 v9 v10 v11 v12 v13 v14 = some (r1) → Fn prog 47 [(.agg [(aI v1), (.str v2), (.str v3), (.sl (l57 v4)), (.sl (l69 v5)), (.sl (l69 v6)), (aI v7)]), (.agg [(aI v8), (.str v9), (.str v10), (.sl (l57 v11)), (.sl (l69 v12)), (.sl (l69 v13)), (aI v14)])] [] (.bool r1) [] := (F47_all K0).1

theorem F46_ok (K0 : Nat) : ∀ (v1 : (List T69)) (v2 : (List T69)) (r1 : Bool), F46 K0 v1 v2 = some (r1) → Fn prog 46 [(.sl (l69 v1)), (.sl (l69 v2)), (.fn 47 [] [])] [] (.bool r1) [] := (F47_all K0).2

def F45 (k : Nat) (v1 : ByteArray) (v2 : (List T69)) (v3 : Int) (v4 : ByteArray) (v5 : (List T69)) (v6 : Int) : Option (Bool) :=
  (bif (v1.toList == v4.toList) then
    ((F46 k v2 v5).bind fun v7 =>
      some (v7))
  else
    some (false))

theorem F45_ok (k : Nat) : ∀ (v1 : ByteArray) (v2 : (List T69)) (v3 : Int) (v4 : ByteArray) (v5 : (List T69)) (v6 : Int) (r1 : Bool), F45 k v1 v2 v3 v4 v5 v6 = some (r1) → Fn prog 45 [(.agg [(.str v1), (.sl (l69 v2)), (aI v3)]), (.agg [(.str v4), (.sl (l69 v5)), (aI v6)])] [] (.bool r1) [] := by
  intro v1 v2 v3 v4 v5 v6 r1 h
  rw [F45] at h
  refine Fn_bodyK hT Go.Proofs.Try.func45 (c := Go.Proofs.Try.f45.body.getD .skip) (by kernel_rfl) (by kernel_rfl) (by kernel_rfl) ?_
  refine zS hT [2, 3] [(2, (.ptr 0 0)), (3, (.ptr 1 0))] [.cells [(.str v1), (.sl (l69 v2)), (aI v3)], .cells [(.str v4), (.sl (l69 v5)), (aI v6)]] ?_
  refine AW_seq ?_
  rcases bif_split h with ⟨h1, h⟩ | ⟨h1, h⟩
  · obtain ⟨v7, h2, h⟩ := bsm h
    try dsimp only at h
    refine AW_reg ?_
    refine zm hT 5 [2, 3, 9] [(2, (.ptr 0 0)), (3, (.ptr 1 0)), (9, (.bool (v1.toList == v4.toList)))] ?_
    refine zO (jQ hT h1) ?_
    refine zm hT 4 [10, 12, 14] [(10, (.bool true)), (12, (.sl (l69 v2))), (14, (.sl (l69 v5)))] ?_
    refine zO (jP Go.Proofs.Try.func46 (F46_ok k v2 v5 v7 h2)) ?_
    refine ze hT 2 [4] [(4, (.bool v7))] ?_
    refine AE_seqN ?_
    refine AE_ret ?_
    refine zK [4] [(4, (.bool v7))] ?_
    simp only [Option.some.injEq] at h
    subst h
    exact zEnd
  · refine AW_reg ?_
    refine zm hT 5 [2, 3, 9] [(2, (.ptr 0 0)), (3, (.ptr 1 0)), (9, (.bool (v1.toList == v4.toList)))] ?_
    refine zO (jQ hT h1) ?_
    refine ze hT 7 [4] [(4, (.bool false))] ?_
    refine AE_seqN ?_
    refine AE_ret ?_
    refine zK [4] [(4, (.bool false))] ?_
    simp only [Option.some.injEq] at h
    subst h
    exact zEnd

def F44_l0 : Nat → (List T34) → (List T34) → Int → Option (Bool)
  | 0, _, _, _ => none
  | k2 + 1, v2, v1, v3 =>
    (bif (decide (v3 < ((l34 v1).length : Int))) then
      ((idx v1 v3).bind fun ⟨v4, v5, v6⟩ =>
        ((idx v2 v3).bind fun ⟨v7, v8, v9⟩ =>
          ((F45 k2 v4 v5 v6 v7 v8 v9).bind fun v10 =>
            (bif (!v10) then
              some (false)
            else
              F44_l0 k2 v2 v1 (IntKind.wrap .i64 (v3 + 1))))))
    else
      some (true))

def F44 (k : Nat) (v1 : (List T34)) (v2 : (List T34)) : Option (Bool) :=
  (bif (((l34 v1).length : Int) != ((l34 v2).length : Int)) then
    some (false)
  else
    F44_l0 k v2 v1 0)

theorem F44_ok (k : Nat) : ∀ (v1 : (List T34)) (v2 : (List T34)) (r1 : Bool), F44 k v1 v2 = some (r1) → Fn prog 44 [(.sl (l34 v1)), (.sl (l34 v2)), (.fn 45 [] [])] [] (.bool r1) [] := by
  intro v1 v2 r1 h
  rw [F44] at h
  refine Fn_bodyK hT Go.Proofs.Try.func44 (c := Go.Proofs.Try.f44.body.getD .skip) (by kernel_rfl) (by kernel_rfl) (by kernel_rfl) ?_
  refine zs hT [0, 1, 2] [(0, (.sl (l34 v1))), (1, (.sl (l34 v2))), (2, (.fn 45 [] []))] ?_
  refine AW_seq ?_
  refine zs hT [0, 1, 2, 14] [(0, (.sl (l34 v1))), (1, (.sl (l34 v2))), (2, (.fn 45 [] [])), (14, (.bool (((l34 v1).length : Int) != ((l34 v2).length : Int))))] ?_
  rcases bif_split h with ⟨h1, h⟩ | ⟨h1, h⟩
  · refine zT h1 ?_
    refine zs hT [6] [(6, (.bool false))] ?_
    refine AE_ret ?_
    refine AE_seqR ?_
    refine zK [6] [(6, (.bool false))] ?_
    simp only [Option.some.injEq] at h
    subst h
    exact zEnd
  · refine zN h1 ?_
    refine AE_skip ?_
    refine AE_seqN ?_
    refine AW_seq ?_
    refine zs hT [1, 2, 15, 16, 17] [(1, (.sl (l34 v2))), (2, (.fn 45 [] [])), (15, (.sl (l34 v1))), (16, (aI ((l34 v1).length : Int))), (17, (aI 0))] ?_
    refine AW_block ?_
    refine zKw [1, 2, 15, 16, 17] [(1, (.sl (l34 v2))), (2, (.fn 45 [] [])), (15, (.sl (l34 v1))), (16, (aI ((l34 v1).length : Int))), (17, (aI 0))] ?_
    refine AW_loop (fun n env L => n ≤ k ∧ ∃ (v3 : Int), env = [(1, (.sl (l34 v2))), (2, (.fn 45 [] [])), (15, (.sl (l34 v1))), (16, (aI ((l34 v1).length : Int))), (17, (aI v3))] ∧ L = [] ∧ F44_l0 n v2 v1 v3 = some (r1)) k ⟨Nat.le_refl _, 0, rfl, rfl, h⟩ ?_
    rintro n _ _ ⟨hn, v3, rfl, rfl, h⟩
    cases n with
    | zero => rw [F44_l0] at h; cases h
    | succ k2 =>
      rw [F44_l0] at h
      refine zs hT [1, 2, 15, 16, 17, 18] [(1, (.sl (l34 v2))), (2, (.fn 45 [] [])), (15, (.sl (l34 v1))), (16, (aI ((l34 v1).length : Int))), (17, (aI v3)), (18, (.bool (decide (v3 < ((l34 v1).length : Int)))))] ?_
      refine AW_seq ?_
      rcases bif_split h with ⟨h4, h⟩ | ⟨h4, h⟩
      · refine zT h4 ?_
        refine AE_skip ?_
        refine AE_seqN ?_
        refine AW_seq ?_
        refine AW_block ?_
        refine AW_seq ?_
        obtain ⟨⟨v4, v5, v6⟩, h5, h⟩ := bsm h
        try dsimp only at h
        refine AW_reg ?_
        refine zm hT 1 [1, 2, 15, 16, 17, 19] [(1, (.sl (l34 v2))), (2, (.fn 45 [] [])), (15, (.sl (l34 v1))), (16, (aI ((l34 v1).length : Int))), (17, (aI v3)), (19, (aI v3))] ?_
        refine zO (jX hT 3 (i34 h5)) ?_
        refine zE hT 4 [1, 2, 7, 8, 15, 16, 17] [(1, (.sl (l34 v2))), (2, (.fn 45 [] [])), (7, (aI v3)), (8, (.ptr 0 0)), (15, (.sl (l34 v1))), (16, (aI ((l34 v1).length : Int))), (17, (aI v3))] [.cells [(.str v4), (.sl (l69 v5)), (aI v6)]] ?_
        refine AE_seqN ?_
        refine AW_seq ?_
        obtain ⟨⟨v7, v8, v9⟩, h6, h⟩ := bsm h
        try dsimp only at h
        refine AW_reg ?_
        refine zm hT 2 [1, 2, 8, 15, 16, 17, 22, 23] [(1, (.sl (l34 v2))), (2, (.fn 45 [] [])), (8, (.ptr 0 0)), (15, (.sl (l34 v1))), (16, (aI ((l34 v1).length : Int))), (17, (aI v3)), (22, (.sl (l34 v2))), (23, (aI v3))] ?_
        refine zO (jX hT 3 (i34 h6)) ?_
        refine zE hT 3 [1, 2, 8, 9, 15, 16, 17] [(1, (.sl (l34 v2))), (2, (.fn 45 [] [])), (8, (.ptr 0 0)), (9, (.ptr 1 0)), (15, (.sl (l34 v1))), (16, (aI ((l34 v1).length : Int))), (17, (aI v3))] [.cells [(.str v4), (.sl (l69 v5)), (aI v6)], .cells [(.str v7), (.sl (l69 v8)), (aI v9)]] ?_
        refine AE_seqN ?_
        refine AW_seq ?_
        obtain ⟨v10, h7, h⟩ := bsm h
        try dsimp only at h
        refine AW_reg ?_
        refine zm hT 3 [1, 2, 15, 16, 17, 26, 27, 28] [(1, (.sl (l34 v2))), (2, (.fn 45 [] [])), (15, (.sl (l34 v1))), (16, (aI ((l34 v1).length : Int))), (17, (aI v3)), (26, (.fn 45 [] [])), (27, (.agg [(.str v4), (.sl (l69 v5)), (aI v6)])), (28, (.agg [(.str v7), (.sl (l69 v8)), (aI v9)]))] ?_
        refine zO (jP Go.Proofs.Try.func45 (F45_ok k2 v4 v5 v6 v7 v8 v9 v10 h7)) ?_
        refine ze hT 1 [1, 2, 15, 16, 17, 30] [(1, (.sl (l34 v2))), (2, (.fn 45 [] [])), (15, (.sl (l34 v1))), (16, (aI ((l34 v1).length : Int))), (17, (aI v3)), (30, (.bool (!v10)))] ?_
        refine AE_seqN ?_
        rcases bif_split h with ⟨h8, h⟩ | ⟨h8, h⟩
        · refine zT h8 ?_
          refine zs hT [6] [(6, (.bool false))] ?_
          refine AE_ret ?_
          refine AE_blkR ?_
          refine AE_seqR ?_
          refine AE_seqR ?_
          refine AE_blkR ?_
          refine AE_seqR ?_
          refine zK [6] [(6, (.bool false))] ?_
          simp only [Option.some.injEq] at h
          subst h
          exact zEnd
        · refine zN h8 ?_
          refine AE_skip ?_
          refine AE_blkN ?_
          refine AE_seqN ?_
          refine zr hT [1, 2, 15, 16, 17] [(1, (.sl (l34 v2))), (2, (.fn 45 [] [])), (15, (.sl (l34 v1))), (16, (aI ((l34 v1).length : Int))), (17, (aI (IntKind.wrap .i64 (v3 + 1))))] ?_
          refine zK [1, 2, 15, 16, 17] [(1, (.sl (l34 v2))), (2, (.fn 45 [] [])), (15, (.sl (l34 v1))), (16, (aI ((l34 v1).length : Int))), (17, (aI (IntKind.wrap .i64 (v3 + 1))))] ?_
          refine zD 0 [] ?_
          exact AE_done ⟨k2, by omega, by omega, (IntKind.wrap .i64 (v3 + 1)), rfl, rfl, h⟩
      · refine zN h4 ?_
        refine AE_exit ?_
        refine AE_seqX ?_
        refine AE_seqX ?_
        refine AE_blkH ?_
        refine AE_seqN ?_
        refine zs hT [6] [(6, (.bool true))] ?_
        refine AE_ret ?_
        refine zK [6] [(6, (.bool true))] ?_
        simp only [Option.some.injEq] at h
        subst h
        exact zEnd

def F19_j0 (k5 : Nat) (v2 : (List T76)) (v3 : (List T34)) (v5 : (List T76)) (v6 : (List T34)) (v7 : Bool) : Option (Bool) :=
  (bif v7 then
    some (false)
  else
    ((F42 k5 v2 v5).bind fun v10 =>
      (bif v10 then
        ((F44 k5 v3 v6).bind fun v11 =>
          some (v11))
      else
        some (false))))

def F19 (k : Nat) (v1 : Int) (v2 : (List T76)) (v3 : (List T34)) (v4 : Int) (v5 : (List T76)) (v6 : (List T34)) : Option (Bool) :=
  ((F14 k v1 v2 v3).bind fun v8 =>
    (bif (v8 != 0) then
      F19_j0 k v2 v3 v5 v6 true
    else
      ((F14 k v4 v5 v6).bind fun v9 =>
        (bif (v9 != 0) then
          F19_j0 k v2 v3 v5 v6 true
        else
          F19_j0 k v2 v3 v5 v6 (v1 != v4)))))

theorem F19_ok (k : Nat) : ∀ (v1 : Int) (v2 : (List T76)) (v3 : (List T34)) (v4 : Int) (v5 : (List T76)) (v6 : (List T34)) (r1 : Bool), F19 k v1 v2 v3 v4 v5 v6 = some (r1) → Fn prog 19 [(.agg [(aI v1), (.sl (l76 v2)), (.sl (l34 v3))]), (.agg [(aI v4), (.sl (l76 v5)), (.sl (l34 v6))])] [] (.bool r1) [] := by
  intro v1 v2 v3 v4 v5 v6 r1 h
  rw [F19] at h
  refine Fn_bodyK hT Go.Proofs.Try.func19 (c := Go.Proofs.Try.f19.body.getD .skip) (by kernel_rfl) (by kernel_rfl) (by kernel_rfl) ?_
  refine zS hT [2, 3] [(2, (.ptr 0 0)), (3, (.ptr 1 0))] [.cells [(aI v1), (.sl (l76 v2)), (.sl (l34 v3))], .cells [(aI v4), (.sl (l76 v5)), (.sl (l34 v6))]] ?_
  refine AW_seq ?_
  refine AW_join (fun env L => ∃ (v7 : Bool), env = [(2, (.ptr 0 0)), (3, (.ptr 1 0)), (19, (.bool v7))] ∧ L = [.cells [(aI v1), (.sl (l76 v2)), (.sl (l34 v3))], .cells [(aI v4), (.sl (l76 v5)), (.sl (l34 v6))]] ∧ ∃ n, n ≤ k ∧ F19_j0 n v2 v3 v5 v6 v7 = some (r1)) ?_ ?_
  · obtain ⟨v8, h1, h⟩ := bsm h
    try dsimp only at h
    rcases bif_split h with ⟨h2, h⟩ | ⟨h2, h⟩
    · refine AW_reg ?_
      refine zm hT 1 [2, 3, 5] [(2, (.ptr 0 0)), (3, (.ptr 1 0)), (5, (.agg [(aI v1), (.sl (l76 v2)), (.sl (l34 v3))]))] ?_
      refine zO (jP Go.Proofs.Try.func14 (F14_ok k v1 v2 v3 v8 h1)) ?_
      refine zm hT 1 [2, 3, 7] [(2, (.ptr 0 0)), (3, (.ptr 1 0)), (7, (.bool (v8 != 0)))] ?_
      refine zO (jQ hT h2) ?_
      refine ze hT 11 [2, 3, 19] [(2, (.ptr 0 0)), (3, (.ptr 1 0)), (19, (.bool true))] ?_
      refine zK [2, 3, 19] [(2, (.ptr 0 0)), (3, (.ptr 1 0)), (19, (.bool true))] ?_
      exact AE_done ⟨true, rfl, rfl, k, by omega, h⟩
    · obtain ⟨v9, h3, h⟩ := bsm h
      try dsimp only at h
      rcases bif_split h with ⟨h4, h⟩ | ⟨h4, h⟩
      · refine AW_reg ?_
        refine zm hT 1 [2, 3, 5] [(2, (.ptr 0 0)), (3, (.ptr 1 0)), (5, (.agg [(aI v1), (.sl (l76 v2)), (.sl (l34 v3))]))] ?_
        refine zO (jP Go.Proofs.Try.func14 (F14_ok k v1 v2 v3 v8 h1)) ?_
        refine zm hT 1 [2, 3, 7] [(2, (.ptr 0 0)), (3, (.ptr 1 0)), (7, (.bool (v8 != 0)))] ?_
        refine zO (jQ hT h2) ?_
        refine zm hT 1 [2, 3, 8, 9] [(2, (.ptr 0 0)), (3, (.ptr 1 0)), (8, (.bool false)), (9, (.agg [(aI v4), (.sl (l76 v5)), (.sl (l34 v6))]))] ?_
        refine zO (jP Go.Proofs.Try.func14 (F14_ok k v4 v5 v6 v9 h3)) ?_
        refine zm hT 2 [2, 3, 12] [(2, (.ptr 0 0)), (3, (.ptr 1 0)), (12, (.bool (v9 != 0)))] ?_
        refine zO (jQ hT h4) ?_
        refine ze hT 6 [2, 3, 19] [(2, (.ptr 0 0)), (3, (.ptr 1 0)), (19, (.bool true))] ?_
        refine zK [2, 3, 19] [(2, (.ptr 0 0)), (3, (.ptr 1 0)), (19, (.bool true))] ?_
        exact AE_done ⟨true, rfl, rfl, k, by omega, h⟩
      · refine AW_reg ?_
        refine zm hT 1 [2, 3, 5] [(2, (.ptr 0 0)), (3, (.ptr 1 0)), (5, (.agg [(aI v1), (.sl (l76 v2)), (.sl (l34 v3))]))] ?_
        refine zO (jP Go.Proofs.Try.func14 (F14_ok k v1 v2 v3 v8 h1)) ?_
        refine zm hT 1 [2, 3, 7] [(2, (.ptr 0 0)), (3, (.ptr 1 0)), (7, (.bool (v8 != 0)))] ?_
        refine zO (jQ hT h2) ?_
        refine zm hT 1 [2, 3, 8, 9] [(2, (.ptr 0 0)), (3, (.ptr 1 0)), (8, (.bool false)), (9, (.agg [(aI v4), (.sl (l76 v5)), (.sl (l34 v6))]))] ?_
        refine zO (jP Go.Proofs.Try.func14 (F14_ok k v4 v5 v6 v9 h3)) ?_
        refine zm hT 2 [2, 3, 12] [(2, (.ptr 0 0)), (3, (.ptr 1 0)), (12, (.bool (v9 != 0)))] ?_
        refine zO (jQ hT h4) ?_
        refine ze hT 6 [2, 3, 19] [(2, (.ptr 0 0)), (3, (.ptr 1 0)), (19, (.bool (v1 != v4)))] ?_
        refine zK [2, 3, 19] [(2, (.ptr 0 0)), (3, (.ptr 1 0)), (19, (.bool (v1 != v4)))] ?_
        exact AE_done ⟨(v1 != v4), rfl, rfl, k, by omega, h⟩
  · rintro _ _ ⟨v7, rfl, rfl, n, hn, h⟩
    obtain ⟨k5, rfl⟩ : ∃ q, q = n := ⟨n, rfl⟩
    rw [F19_j0] at h
    rcases bif_split h with ⟨h7, h⟩ | ⟨h7, h⟩
    · refine zT h7 ?_
      refine zs hT [4] [(4, (.bool false))] ?_
      refine AE_ret ?_
      refine AE_seqR ?_
      refine zK [4] [(4, (.bool false))] ?_
      simp only [Option.some.injEq] at h
      subst h
      exact zEnd
    · refine zN h7 ?_
      refine AE_skip ?_
      refine AE_seqN ?_
      refine AW_seq ?_
      obtain ⟨v10, h8, h⟩ := bsm h
      try dsimp only at h
      rcases bif_split h with ⟨h9, h⟩ | ⟨h9, h⟩
      · obtain ⟨v11, h10, h⟩ := bsm h
        try dsimp only at h
        refine AW_reg ?_
        refine zm hT 4 [2, 3, 21, 23] [(2, (.ptr 0 0)), (3, (.ptr 1 0)), (21, (.sl (l76 v2))), (23, (.sl (l76 v5)))] ?_
        refine zO (jP Go.Proofs.Try.func42 (F42_ok k5 v2 v5 v10 h8)) ?_
        refine zO (jQ hT h9) ?_
        refine zm hT 4 [25, 27, 29] [(25, (.bool true)), (27, (.sl (l34 v3))), (29, (.sl (l34 v6)))] ?_
        refine zO (jP Go.Proofs.Try.func44 (F44_ok k5 v3 v6 v11 h10)) ?_
        refine ze hT 2 [4] [(4, (.bool v11))] ?_
        refine AE_seqN ?_
        refine AE_ret ?_
        refine zK [4] [(4, (.bool v11))] ?_
        simp only [Option.some.injEq] at h
        subst h
        exact zEnd
      · refine AW_reg ?_
        refine zm hT 4 [2, 3, 21, 23] [(2, (.ptr 0 0)), (3, (.ptr 1 0)), (21, (.sl (l76 v2))), (23, (.sl (l76 v5)))] ?_
        refine zO (jP Go.Proofs.Try.func42 (F42_ok k5 v2 v5 v10 h8)) ?_
        refine zO (jQ hT h9) ?_
        refine ze hT 7 [4] [(4, (.bool false))] ?_
        refine AE_seqN ?_
        refine AE_ret ?_
        refine zK [4] [(4, (.bool false))] ?_
        simp only [Option.some.injEq] at h
        subst h
        exact zEnd

def F11 (k : Nat) : Option (Bool) :=
  ((F14 k 0 [] []).bind fun v1 =>
    (bif (v1 == 1) then
      ((F14 k 0 [] [(T34.mk (ByteArray.mk #[97]) [(T69.mk 11 (ByteArray.mk #[98]) (ByteArray.mk #[]) [] [] [] 0)] 0)]).bind fun v2 =>
        (bif (v2 == 0) then
          ((F19 k 0 [] [(T34.mk (ByteArray.mk #[97]) [(T69.mk 11 (ByteArray.mk #[98]) (ByteArray.mk #[]) [] [] [] 0)] 0)] 0 [] [(T34.mk (ByteArray.mk #[97]) [(T69.mk 11 (ByteArray.mk #[98]) (ByteArray.mk #[]) [] [] [] 0)] 0)]).bind fun v3 =>
            (bif v3 then
              ((idx [(T34.mk (ByteArray.mk #[97]) [(T69.mk 11 (ByteArray.mk #[98]) (ByteArray.mk #[]) [] [] [] 0)] 0)] 0).bind fun ⟨v4, v5, v6⟩ =>
                ((F15 k v5).bind fun v7 =>
                  some ((v7 == 1))))
            else
              some (false)))
        else
          some (false)))
    else
      some (false)))

theorem F11_ok (k : Nat) : ∀  (r1 : Bool), F11 k = some (r1) → Fn prog 11 [] [] (.bool r1) [] := by
  intro r1 h
  rw [F11] at h
  refine Fn_bodyK hT Go.Proofs.Try.func11 (c := Go.Proofs.Try.f11.body.getD .skip) (by kernel_rfl) (by kernel_rfl) (by kernel_rfl) ?_
  refine zs hT [] [] ?_
  refine AW_seq ?_
  refine AW_reg ?_
  refine zm hT 1 [2] [(2, (.agg [(aI 11), (.str (ByteArray.mk #[98])), (.str (ByteArray.mk #[])), .nil, .nil, .nil, (aI 0)]))] ?_
  refine zO (OpJ_after (jL hT 70 7 [(.agg [(aI 11), (.str (ByteArray.mk #[98])), (.str (ByteArray.mk #[])), .nil, .nil, .nil, (aI 0)])] 0) (v' := .sl (l69 [(T69.mk 11 (ByteArray.mk #[98]) (ByteArray.mk #[]) [] [] [] 0)])) (Weak.sls 7 ⟨Weak.refl, Weak.refl, Weak.refl, Weak.nil, Weak.nil, Weak.nil, Weak.refl, trivial⟩ (by kernel_rfl) (by kernel_rfl) (by kernel_rfl))) ?_
  refine zm hT 1 [4] [(4, (.agg [(.str (ByteArray.mk #[97])), (.sl (l69 [(T69.mk 11 (ByteArray.mk #[98]) (ByteArray.mk #[]) [] [] [] 0)])), (aI 0)]))] ?_
  refine zO (jL hT 35 3 [(.agg [(.str (ByteArray.mk #[97])), (.sl (l69 [(T69.mk 11 (ByteArray.mk #[98]) (ByteArray.mk #[]) [] [] [] 0)])), (aI 0)])] 0) ?_
  refine zE hT 3 [1] [(1, (.ptr 0 0))] [.cells [(aI 0), .nil, (.sl (l34 [(T34.mk (ByteArray.mk #[97]) [(T69.mk 11 (ByteArray.mk #[98]) (ByteArray.mk #[]) [] [] [] 0)] 0)]))]] ?_
  refine AE_seqN ?_
  refine AW_seq ?_
  obtain ⟨v1, h1, h⟩ := bsm h
  try dsimp only at h
  rcases bif_split h with ⟨h2, h⟩ | ⟨h2, h⟩
  · obtain ⟨v2, h3, h⟩ := bsm h
    try dsimp only at h
    rcases bif_split h with ⟨h4, h⟩ | ⟨h4, h⟩
    · obtain ⟨v3, h5, h⟩ := bsm h
      try dsimp only at h
      rcases bif_split h with ⟨h6, h⟩ | ⟨h6, h⟩
      · obtain ⟨⟨v4, v5, v6⟩, h7, h⟩ := bsm h
        try dsimp only at h
        obtain ⟨v7, h8, h⟩ := bsm h
        try dsimp only at h
        refine AW_reg ?_
        refine zm hT 1 [1, 7] [(1, (.ptr 0 0)), (7, (.agg [(aI 0), .nil, .nil]))] ?_
        refine zO (jC Go.Proofs.Try.func14 (Fn_args (args := [(.agg [(aI 0), .nil, .nil])]) (args' := [(.agg [(aI 0), (.sl (l76 [])), (.sl (l34 []))])]) (fP (F14_ok k 0 [] [] v1 h1)) ⟨(Weak.aggs ⟨Weak.refl, Weak.nil, Weak.nil, trivial⟩ (by kernel_rfl)), trivial⟩)) ?_
        refine zm hT 1 [1, 9] [(1, (.ptr 0 0)), (9, (.bool (v1 == 1)))] ?_
        refine zO (jQ hT h2) ?_
        refine zm hT 1 [1, 10, 11] [(1, (.ptr 0 0)), (10, (.bool true)), (11, (.agg [(aI 0), .nil, (.sl (l34 [(T34.mk (ByteArray.mk #[97]) [(T69.mk 11 (ByteArray.mk #[98]) (ByteArray.mk #[]) [] [] [] 0)] 0)]))]))] ?_
        refine zO (jC Go.Proofs.Try.func14 (Fn_args (args := [(.agg [(aI 0), .nil, (.sl (l34 [(T34.mk (ByteArray.mk #[97]) [(T69.mk 11 (ByteArray.mk #[98]) (ByteArray.mk #[]) [] [] [] 0)] 0)]))])]) (args' := [(.agg [(aI 0), (.sl (l76 [])), (.sl (l34 [(T34.mk (ByteArray.mk #[97]) [(T69.mk 11 (ByteArray.mk #[98]) (ByteArray.mk #[]) [] [] [] 0)] 0)]))])]) (fP (F14_ok k 0 [] [(T34.mk (ByteArray.mk #[97]) [(T69.mk 11 (ByteArray.mk #[98]) (ByteArray.mk #[]) [] [] [] 0)] 0)] v2 h3)) ⟨(Weak.aggs ⟨Weak.refl, Weak.nil, Weak.refl, trivial⟩ (by kernel_rfl)), trivial⟩)) ?_
        refine zm hT 2 [1, 14] [(1, (.ptr 0 0)), (14, (.bool (v2 == 0)))] ?_
        refine zO (jQ hT h4) ?_
        refine zm hT 2 [1, 15, 16, 17] [(1, (.ptr 0 0)), (15, (.bool true)), (16, (.agg [(aI 0), .nil, (.sl (l34 [(T34.mk (ByteArray.mk #[97]) [(T69.mk 11 (ByteArray.mk #[98]) (ByteArray.mk #[]) [] [] [] 0)] 0)]))])), (17, (.agg [(aI 0), .nil, (.sl (l34 [(T34.mk (ByteArray.mk #[97]) [(T69.mk 11 (ByteArray.mk #[98]) (ByteArray.mk #[]) [] [] [] 0)] 0)]))]))] ?_
        refine zO (jC Go.Proofs.Try.func19 (Fn_args (args := [(.agg [(aI 0), .nil, (.sl (l34 [(T34.mk (ByteArray.mk #[97]) [(T69.mk 11 (ByteArray.mk #[98]) (ByteArray.mk #[]) [] [] [] 0)] 0)]))]), (.agg [(aI 0), .nil, (.sl (l34 [(T34.mk (ByteArray.mk #[97]) [(T69.mk 11 (ByteArray.mk #[98]) (ByteArray.mk #[]) [] [] [] 0)] 0)]))])]) (args' := [(.agg [(aI 0), (.sl (l76 [])), (.sl (l34 [(T34.mk (ByteArray.mk #[97]) [(T69.mk 11 (ByteArray.mk #[98]) (ByteArray.mk #[]) [] [] [] 0)] 0)]))]), (.agg [(aI 0), (.sl (l76 [])), (.sl (l34 [(T34.mk (ByteArray.mk #[97]) [(T69.mk 11 (ByteArray.mk #[98]) (ByteArray.mk #[]) [] [] [] 0)] 0)]))])]) (fP (F19_ok k 0 [] [(T34.mk (ByteArray.mk #[97]) [(T69.mk 11 (ByteArray.mk #[98]) (ByteArray.mk #[]) [] [] [] 0)] 0)] 0 [] [(T34.mk (ByteArray.mk #[97]) [(T69.mk 11 (ByteArray.mk #[98]) (ByteArray.mk #[]) [] [] [] 0)] 0)] v3 h5)) ⟨(Weak.aggs ⟨Weak.refl, Weak.nil, Weak.refl, trivial⟩ (by kernel_rfl)), (Weak.aggs ⟨Weak.refl, Weak.nil, Weak.refl, trivial⟩ (by kernel_rfl)), trivial⟩)) ?_
        refine zm hT 1 [1, 19] [(1, (.ptr 0 0)), (19, (.bool v3))] ?_
        refine zO (jQ hT h6) ?_
        refine zm hT 2 [20, 22] [(20, (.bool true)), (22, (.sl (l34 [(T34.mk (ByteArray.mk #[97]) [(T69.mk 11 (ByteArray.mk #[98]) (ByteArray.mk #[]) [] [] [] 0)] 0)])))] ?_
        refine zO (jX hT 3 (i34 h7)) ?_
        refine zm hT 2 [20, 25] [(20, (.bool true)), (25, (.sl (l69 v5)))] ?_
        refine zO (jP Go.Proofs.Try.func15 (F15_ok k v5 v7 h8)) ?_
        refine ze hT 3 [0] [(0, (.bool (v7 == 1)))] ?_
        refine AE_seqN ?_
        refine AE_ret ?_
        refine zK [0] [(0, (.bool (v7 == 1)))] ?_
        simp only [Option.some.injEq] at h
        subst h
        exact zEnd
      · refine AW_reg ?_
        refine zm hT 1 [1, 7] [(1, (.ptr 0 0)), (7, (.agg [(aI 0), .nil, .nil]))] ?_
        refine zO (jC Go.Proofs.Try.func14 (Fn_args (args := [(.agg [(aI 0), .nil, .nil])]) (args' := [(.agg [(aI 0), (.sl (l76 [])), (.sl (l34 []))])]) (fP (F14_ok k 0 [] [] v1 h1)) ⟨(Weak.aggs ⟨Weak.refl, Weak.nil, Weak.nil, trivial⟩ (by kernel_rfl)), trivial⟩)) ?_
        refine zm hT 1 [1, 9] [(1, (.ptr 0 0)), (9, (.bool (v1 == 1)))] ?_
        refine zO (jQ hT h2) ?_
        refine zm hT 1 [1, 10, 11] [(1, (.ptr 0 0)), (10, (.bool true)), (11, (.agg [(aI 0), .nil, (.sl (l34 [(T34.mk (ByteArray.mk #[97]) [(T69.mk 11 (ByteArray.mk #[98]) (ByteArray.mk #[]) [] [] [] 0)] 0)]))]))] ?_
        refine zO (jC Go.Proofs.Try.func14 (Fn_args (args := [(.agg [(aI 0), .nil, (.sl (l34 [(T34.mk (ByteArray.mk #[97]) [(T69.mk 11 (ByteArray.mk #[98]) (ByteArray.mk #[]) [] [] [] 0)] 0)]))])]) (args' := [(.agg [(aI 0), (.sl (l76 [])), (.sl (l34 [(T34.mk (ByteArray.mk #[97]) [(T69.mk 11 (ByteArray.mk #[98]) (ByteArray.mk #[]) [] [] [] 0)] 0)]))])]) (fP (F14_ok k 0 [] [(T34.mk (ByteArray.mk #[97]) [(T69.mk 11 (ByteArray.mk #[98]) (ByteArray.mk #[]) [] [] [] 0)] 0)] v2 h3)) ⟨(Weak.aggs ⟨Weak.refl, Weak.nil, Weak.refl, trivial⟩ (by kernel_rfl)), trivial⟩)) ?_
        refine zm hT 2 [1, 14] [(1, (.ptr 0 0)), (14, (.bool (v2 == 0)))] ?_
        refine zO (jQ hT h4) ?_
        refine zm hT 2 [1, 15, 16, 17] [(1, (.ptr 0 0)), (15, (.bool true)), (16, (.agg [(aI 0), .nil, (.sl (l34 [(T34.mk (ByteArray.mk #[97]) [(T69.mk 11 (ByteArray.mk #[98]) (ByteArray.mk #[]) [] [] [] 0)] 0)]))])), (17, (.agg [(aI 0), .nil, (.sl (l34 [(T34.mk (ByteArray.mk #[97]) [(T69.mk 11 (ByteArray.mk #[98]) (ByteArray.mk #[]) [] [] [] 0)] 0)]))]))] ?_
        refine zO (jC Go.Proofs.Try.func19 (Fn_args (args := [(.agg [(aI 0), .nil, (.sl (l34 [(T34.mk (ByteArray.mk #[97]) [(T69.mk 11 (ByteArray.mk #[98]) (ByteArray.mk #[]) [] [] [] 0)] 0)]))]), (.agg [(aI 0), .nil, (.sl (l34 [(T34.mk (ByteArray.mk #[97]) [(T69.mk 11 (ByteArray.mk #[98]) (ByteArray.mk #[]) [] [] [] 0)] 0)]))])]) (args' := [(.agg [(aI 0), (.sl (l76 [])), (.sl (l34 [(T34.mk (ByteArray.mk #[97]) [(T69.mk 11 (ByteArray.mk #[98]) (ByteArray.mk #[]) [] [] [] 0)] 0)]))]), (.agg [(aI 0), (.sl (l76 [])), (.sl (l34 [(T34.mk (ByteArray.mk #[97]) [(T69.mk 11 (ByteArray.mk #[98]) (ByteArray.mk #[]) [] [] [] 0)] 0)]))])]) (fP (F19_ok k 0 [] [(T34.mk (ByteArray.mk #[97]) [(T69.mk 11 (ByteArray.mk #[98]) (ByteArray.mk #[]) [] [] [] 0)] 0)] 0 [] [(T34.mk (ByteArray.mk #[97]) [(T69.mk 11 (ByteArray.mk #[98]) (ByteArray.mk #[]) [] [] [] 0)] 0)] v3 h5)) ⟨(Weak.aggs ⟨Weak.refl, Weak.nil, Weak.refl, trivial⟩ (by kernel_rfl)), (Weak.aggs ⟨Weak.refl, Weak.nil, Weak.refl, trivial⟩ (by kernel_rfl)), trivial⟩)) ?_
        refine zm hT 1 [1, 19] [(1, (.ptr 0 0)), (19, (.bool v3))] ?_
        refine zO (jQ hT h6) ?_
        refine ze hT 9 [0] [(0, (.bool false))] ?_
        refine AE_seqN ?_
        refine AE_ret ?_
        refine zK [0] [(0, (.bool false))] ?_
        simp only [Option.some.injEq] at h
        subst h
        exact zEnd
    · refine AW_reg ?_
      refine zm hT 1 [1, 7] [(1, (.ptr 0 0)), (7, (.agg [(aI 0), .nil, .nil]))] ?_
      refine zO (jC Go.Proofs.Try.func14 (Fn_args (args := [(.agg [(aI 0), .nil, .nil])]) (args' := [(.agg [(aI 0), (.sl (l76 [])), (.sl (l34 []))])]) (fP (F14_ok k 0 [] [] v1 h1)) ⟨(Weak.aggs ⟨Weak.refl, Weak.nil, Weak.nil, trivial⟩ (by kernel_rfl)), trivial⟩)) ?_
      refine zm hT 1 [1, 9] [(1, (.ptr 0 0)), (9, (.bool (v1 == 1)))] ?_
      refine zO (jQ hT h2) ?_
      refine zm hT 1 [1, 10, 11] [(1, (.ptr 0 0)), (10, (.bool true)), (11, (.agg [(aI 0), .nil, (.sl (l34 [(T34.mk (ByteArray.mk #[97]) [(T69.mk 11 (ByteArray.mk #[98]) (ByteArray.mk #[]) [] [] [] 0)] 0)]))]))] ?_
      refine zO (jC Go.Proofs.Try.func14 (Fn_args (args := [(.agg [(aI 0), .nil, (.sl (l34 [(T34.mk (ByteArray.mk #[97]) [(T69.mk 11 (ByteArray.mk #[98]) (ByteArray.mk #[]) [] [] [] 0)] 0)]))])]) (args' := [(.agg [(aI 0), (.sl (l76 [])), (.sl (l34 [(T34.mk (ByteArray.mk #[97]) [(T69.mk 11 (ByteArray.mk #[98]) (ByteArray.mk #[]) [] [] [] 0)] 0)]))])]) (fP (F14_ok k 0 [] [(T34.mk (ByteArray.mk #[97]) [(T69.mk 11 (ByteArray.mk #[98]) (ByteArray.mk #[]) [] [] [] 0)] 0)] v2 h3)) ⟨(Weak.aggs ⟨Weak.refl, Weak.nil, Weak.refl, trivial⟩ (by kernel_rfl)), trivial⟩)) ?_
      refine zm hT 2 [1, 14] [(1, (.ptr 0 0)), (14, (.bool (v2 == 0)))] ?_
      refine zO (jQ hT h4) ?_
      refine ze hT 14 [0] [(0, (.bool false))] ?_
      refine AE_seqN ?_
      refine AE_ret ?_
      refine zK [0] [(0, (.bool false))] ?_
      simp only [Option.some.injEq] at h
      subst h
      exact zEnd
  · refine AW_reg ?_
    refine zm hT 1 [1, 7] [(1, (.ptr 0 0)), (7, (.agg [(aI 0), .nil, .nil]))] ?_
    refine zO (jC Go.Proofs.Try.func14 (Fn_args (args := [(.agg [(aI 0), .nil, .nil])]) (args' := [(.agg [(aI 0), (.sl (l76 [])), (.sl (l34 []))])]) (fP (F14_ok k 0 [] [] v1 h1)) ⟨(Weak.aggs ⟨Weak.refl, Weak.nil, Weak.nil, trivial⟩ (by kernel_rfl)), trivial⟩)) ?_
    refine zm hT 1 [1, 9] [(1, (.ptr 0 0)), (9, (.bool (v1 == 1)))] ?_
    refine zO (jQ hT h2) ?_
    refine ze hT 19 [0] [(0, (.bool false))] ?_
    refine AE_seqN ?_
    refine AE_ret ?_
    refine zK [0] [(0, (.bool false))] ?_
    simp only [Option.some.injEq] at h
    subst h
    exact zEnd

def F121 (k : Nat) : Option ((List ByteArray)) :=
  some ([(ByteArray.mk #[119, 105, 100, 116, 104]), (ByteArray.mk #[118, 97, 114]), (ByteArray.mk #[97, 116, 111, 109, 105, 99]), (ByteArray.mk #[109, 117, 116, 101, 120]), (ByteArray.mk #[99, 104, 97, 110]), (ByteArray.mk #[112, 114, 111, 99]), (ByteArray.mk #[115, 101, 116]), (ByteArray.mk #[108, 111, 97, 100]), (ByteArray.mk #[115, 116, 111, 114, 101]), (ByteArray.mk #[103, 101, 116]), (ByteArray.mk #[112, 117, 116]), (ByteArray.mk #[97, 100, 100]), (ByteArray.mk #[99, 97, 115]), (ByteArray.mk #[108, 111, 99, 107]), (ByteArray.mk #[115, 101, 110, 100]), (ByteArray.mk #[114, 101, 99, 118]), (ByteArray.mk #[103, 111]), (ByteArray.mk #[105, 102]), (ByteArray.mk #[101, 108, 115, 101]), (ByteArray.mk #[119, 104, 105, 108, 101]), (ByteArray.mk #[98, 114, 101, 97, 107]), (ByteArray.mk #[99, 111, 110, 116, 105, 110, 117, 101]), (ByteArray.mk #[97, 115, 115, 101, 114, 116])])

theorem F121_ok (k : Nat) : ∀  (r1 : (List ByteArray)), F121 k = some (r1) → Fn prog 121 [] [] (.sl (l9 r1)) [] := by
  intro r1 h
  rw [F121] at h
  refine Fn_bodyK hT Go.Proofs.Try.func121 (c := Go.Proofs.Try.f121.body.getD .skip) (by kernel_rfl) (by kernel_rfl) (by kernel_rfl) ?_
  refine zs hT [] [] ?_
  refine AW_seq ?_
  refine AW_reg ?_
  refine zO (jL hT 9 1 [(.str (ByteArray.mk #[119, 105, 100, 116, 104])), (.str (ByteArray.mk #[118, 97, 114])), (.str (ByteArray.mk #[97, 116, 111, 109, 105, 99])), (.str (ByteArray.mk #[109, 117, 116, 101, 120])), (.str (ByteArray.mk #[99, 104, 97, 110])), (.str (ByteArray.mk #[112, 114, 111, 99])), (.str (ByteArray.mk #[115, 101, 116])), (.str (ByteArray.mk #[108, 111, 97, 100])), (.str (ByteArray.mk #[115, 116, 111, 114, 101])), (.str (ByteArray.mk #[103, 101, 116])), (.str (ByteArray.mk #[112, 117, 116])), (.str (ByteArray.mk #[97, 100, 100])), (.str (ByteArray.mk #[99, 97, 115])), (.str (ByteArray.mk #[108, 111, 99, 107])), (.str (ByteArray.mk #[115, 101, 110, 100])), (.str (ByteArray.mk #[114, 101, 99, 118])), (.str (ByteArray.mk #[103, 111])), (.str (ByteArray.mk #[105, 102])), (.str (ByteArray.mk #[101, 108, 115, 101])), (.str (ByteArray.mk #[119, 104, 105, 108, 101])), (.str (ByteArray.mk #[98, 114, 101, 97, 107])), (.str (ByteArray.mk #[99, 111, 110, 116, 105, 110, 117, 101])), (.str (ByteArray.mk #[97, 115, 115, 101, 114, 116]))] 0) ?_
  refine ze hT 1 [0] [(0, (.sl (l9 [(ByteArray.mk #[119, 105, 100, 116, 104]), (ByteArray.mk #[118, 97, 114]), (ByteArray.mk #[97, 116, 111, 109, 105, 99]), (ByteArray.mk #[109, 117, 116, 101, 120]), (ByteArray.mk #[99, 104, 97, 110]), (ByteArray.mk #[112, 114, 111, 99]), (ByteArray.mk #[115, 101, 116]), (ByteArray.mk #[108, 111, 97, 100]), (ByteArray.mk #[115, 116, 111, 114, 101]), (ByteArray.mk #[103, 101, 116]), (ByteArray.mk #[112, 117, 116]), (ByteArray.mk #[97, 100, 100]), (ByteArray.mk #[99, 97, 115]), (ByteArray.mk #[108, 111, 99, 107]), (ByteArray.mk #[115, 101, 110, 100]), (ByteArray.mk #[114, 101, 99, 118]), (ByteArray.mk #[103, 111]), (ByteArray.mk #[105, 102]), (ByteArray.mk #[101, 108, 115, 101]), (ByteArray.mk #[119, 104, 105, 108, 101]), (ByteArray.mk #[98, 114, 101, 97, 107]), (ByteArray.mk #[99, 111, 110, 116, 105, 110, 117, 101]), (ByteArray.mk #[97, 115, 115, 101, 114, 116])])))] ?_
  refine AE_seqN ?_
  refine AE_ret ?_
  refine zK [0] [(0, (.sl (l9 [(ByteArray.mk #[119, 105, 100, 116, 104]), (ByteArray.mk #[118, 97, 114]), (ByteArray.mk #[97, 116, 111, 109, 105, 99]), (ByteArray.mk #[109, 117, 116, 101, 120]), (ByteArray.mk #[99, 104, 97, 110]), (ByteArray.mk #[112, 114, 111, 99]), (ByteArray.mk #[115, 101, 116]), (ByteArray.mk #[108, 111, 97, 100]), (ByteArray.mk #[115, 116, 111, 114, 101]), (ByteArray.mk #[103, 101, 116]), (ByteArray.mk #[112, 117, 116]), (ByteArray.mk #[97, 100, 100]), (ByteArray.mk #[99, 97, 115]), (ByteArray.mk #[108, 111, 99, 107]), (ByteArray.mk #[115, 101, 110, 100]), (ByteArray.mk #[114, 101, 99, 118]), (ByteArray.mk #[103, 111]), (ByteArray.mk #[105, 102]), (ByteArray.mk #[101, 108, 115, 101]), (ByteArray.mk #[119, 104, 105, 108, 101]), (ByteArray.mk #[98, 114, 101, 97, 107]), (ByteArray.mk #[99, 111, 110, 116, 105, 110, 117, 101]), (ByteArray.mk #[97, 115, 115, 101, 114, 116])])))] ?_
  simp only [Option.some.injEq] at h
  subst h
  exact zEnd

mutual
def F122_l0 : Nat → ByteArray → Int → Option (Int)
  | 0, _, _ => none
  | k1 + 1, v1, v2 =>
    (bif (decide (v2 < ((l50 [[(ByteArray.mk #[124, 124])], [(ByteArray.mk #[38, 38])], [(ByteArray.mk #[61, 61]), (ByteArray.mk #[33, 61]), (ByteArray.mk #[60]), (ByteArray.mk #[60, 61]), (ByteArray.mk #[62]), (ByteArray.mk #[62, 61])], [(ByteArray.mk #[43]), (ByteArray.mk #[45]), (ByteArray.mk #[124]), (ByteArray.mk #[94])], [(ByteArray.mk #[42]), (ByteArray.mk #[47]), (ByteArray.mk #[37]), (ByteArray.mk #[60, 60]), (ByteArray.mk #[62, 62]), (ByteArray.mk #[38])]]).length : Int))) then
      F122_l1 k1 v1 v2 0
    else
      some (0))
def F122_l1 : Nat → ByteArray → Int → Int → Option (Int)
  | 0, _, _, _ => none
  | k4 + 1, v1, v2, v3 =>
    ((idx [[(ByteArray.mk #[124, 124])], [(ByteArray.mk #[38, 38])], [(ByteArray.mk #[61, 61]), (ByteArray.mk #[33, 61]), (ByteArray.mk #[60]), (ByteArray.mk #[60, 61]), (ByteArray.mk #[62]), (ByteArray.mk #[62, 61])], [(ByteArray.mk #[43]), (ByteArray.mk #[45]), (ByteArray.mk #[124]), (ByteArray.mk #[94])], [(ByteArray.mk #[42]), (ByteArray.mk #[47]), (ByteArray.mk #[37]), (ByteArray.mk #[60, 60]), (ByteArray.mk #[62, 62]), (ByteArray.mk #[38])]] v2).bind fun v4 =>
      (bif (decide (v3 < ((l9 v4).length : Int))) then
        ((idx [[(ByteArray.mk #[124, 124])], [(ByteArray.mk #[38, 38])], [(ByteArray.mk #[61, 61]), (ByteArray.mk #[33, 61]), (ByteArray.mk #[60]), (ByteArray.mk #[60, 61]), (ByteArray.mk #[62]), (ByteArray.mk #[62, 61])], [(ByteArray.mk #[43]), (ByteArray.mk #[45]), (ByteArray.mk #[124]), (ByteArray.mk #[94])], [(ByteArray.mk #[42]), (ByteArray.mk #[47]), (ByteArray.mk #[37]), (ByteArray.mk #[60, 60]), (ByteArray.mk #[62, 62]), (ByteArray.mk #[38])]] v2).bind fun v5 =>
          ((idx v5 v3).bind fun v6 =>
            (bif (v6.toList == v1.toList) then
              some ((IntKind.wrap .i64 (v2 + 1)))
            else
              F122_l1 k4 v1 v2 (IntKind.wrap .i64 (v3 + 1)))))
      else
        F122_l0 k4 v1 (IntKind.wrap .i64 (v2 + 1))))
end

def F122 (k : Nat) (v1 : ByteArray) : Option (Int) :=
  F122_l0 k v1 0

theorem F122_ok (k : Nat) : ∀ (v1 : ByteArray) (r1 : Int), F122 k v1 = some (r1) → Fn prog 122 [(.str v1)] [] (aI r1) [] := by
  intro v1 r1 h
  rw [F122] at h
  refine Fn_bodyK hT Go.Proofs.Try.func122 (c := Go.Proofs.Try.f122.body.getD .skip) (by kernel_rfl) (by kernel_rfl) (by kernel_rfl) ?_
  refine zs hT [0] [(0, (.str v1))] ?_
  refine AW_seq ?_
  refine AW_reg ?_
  refine zO (jL hT 9 1 [(.str (ByteArray.mk #[124, 124]))] 0) ?_
  refine zO (jL hT 9 1 [(.str (ByteArray.mk #[38, 38]))] 0) ?_
  refine zO (jL hT 9 1 [(.str (ByteArray.mk #[61, 61])), (.str (ByteArray.mk #[33, 61])), (.str (ByteArray.mk #[60])), (.str (ByteArray.mk #[60, 61])), (.str (ByteArray.mk #[62])), (.str (ByteArray.mk #[62, 61]))] 0) ?_
  refine zO (jL hT 9 1 [(.str (ByteArray.mk #[43])), (.str (ByteArray.mk #[45])), (.str (ByteArray.mk #[124])), (.str (ByteArray.mk #[94]))] 0) ?_
  refine zO (jL hT 9 1 [(.str (ByteArray.mk #[42])), (.str (ByteArray.mk #[47])), (.str (ByteArray.mk #[37])), (.str (ByteArray.mk #[60, 60])), (.str (ByteArray.mk #[62, 62])), (.str (ByteArray.mk #[38]))] 0) ?_
  refine zO (jL hT 50 1 [(.sl (l9 [(ByteArray.mk #[124, 124])])), (.sl (l9 [(ByteArray.mk #[38, 38])])), (.sl (l9 [(ByteArray.mk #[61, 61]), (ByteArray.mk #[33, 61]), (ByteArray.mk #[60]), (ByteArray.mk #[60, 61]), (ByteArray.mk #[62]), (ByteArray.mk #[62, 61])])), (.sl (l9 [(ByteArray.mk #[43]), (ByteArray.mk #[45]), (ByteArray.mk #[124]), (ByteArray.mk #[94])])), (.sl (l9 [(ByteArray.mk #[42]), (ByteArray.mk #[47]), (ByteArray.mk #[37]), (ByteArray.mk #[60, 60]), (ByteArray.mk #[62, 62]), (ByteArray.mk #[38])]))] 0) ?_
  refine ze hT 1 [0, 3] [(0, (.str v1)), (3, (.sl (l50 [[(ByteArray.mk #[124, 124])], [(ByteArray.mk #[38, 38])], [(ByteArray.mk #[61, 61]), (ByteArray.mk #[33, 61]), (ByteArray.mk #[60]), (ByteArray.mk #[60, 61]), (ByteArray.mk #[62]), (ByteArray.mk #[62, 61])], [(ByteArray.mk #[43]), (ByteArray.mk #[45]), (ByteArray.mk #[124]), (ByteArray.mk #[94])], [(ByteArray.mk #[42]), (ByteArray.mk #[47]), (ByteArray.mk #[37]), (ByteArray.mk #[60, 60]), (ByteArray.mk #[62, 62]), (ByteArray.mk #[38])]])))] ?_
  refine AE_seqN ?_
  refine AW_seq ?_
  refine zs hT [0, 3, 4] [(0, (.str v1)), (3, (.sl (l50 [[(ByteArray.mk #[124, 124])], [(ByteArray.mk #[38, 38])], [(ByteArray.mk #[61, 61]), (ByteArray.mk #[33, 61]), (ByteArray.mk #[60]), (ByteArray.mk #[60, 61]), (ByteArray.mk #[62]), (ByteArray.mk #[62, 61])], [(ByteArray.mk #[43]), (ByteArray.mk #[45]), (ByteArray.mk #[124]), (ByteArray.mk #[94])], [(ByteArray.mk #[42]), (ByteArray.mk #[47]), (ByteArray.mk #[37]), (ByteArray.mk #[60, 60]), (ByteArray.mk #[62, 62]), (ByteArray.mk #[38])]]))), (4, (aI 0))] ?_
  refine AW_block ?_
  refine zKw [0, 3, 4] [(0, (.str v1)), (3, (.sl (l50 [[(ByteArray.mk #[124, 124])], [(ByteArray.mk #[38, 38])], [(ByteArray.mk #[61, 61]), (ByteArray.mk #[33, 61]), (ByteArray.mk #[60]), (ByteArray.mk #[60, 61]), (ByteArray.mk #[62]), (ByteArray.mk #[62, 61])], [(ByteArray.mk #[43]), (ByteArray.mk #[45]), (ByteArray.mk #[124]), (ByteArray.mk #[94])], [(ByteArray.mk #[42]), (ByteArray.mk #[47]), (ByteArray.mk #[37]), (ByteArray.mk #[60, 60]), (ByteArray.mk #[62, 62]), (ByteArray.mk #[38])]]))), (4, (aI 0))] ?_
  refine AW_loop (fun n env L => n ≤ k ∧ ∃ (v2 : Int), env = [(0, (.str v1)), (3, (.sl (l50 [[(ByteArray.mk #[124, 124])], [(ByteArray.mk #[38, 38])], [(ByteArray.mk #[61, 61]), (ByteArray.mk #[33, 61]), (ByteArray.mk #[60]), (ByteArray.mk #[60, 61]), (ByteArray.mk #[62]), (ByteArray.mk #[62, 61])], [(ByteArray.mk #[43]), (ByteArray.mk #[45]), (ByteArray.mk #[124]), (ByteArray.mk #[94])], [(ByteArray.mk #[42]), (ByteArray.mk #[47]), (ByteArray.mk #[37]), (ByteArray.mk #[60, 60]), (ByteArray.mk #[62, 62]), (ByteArray.mk #[38])]]))), (4, (aI v2))] ∧ L = [] ∧ F122_l0 n v1 v2 = some (r1)) k ⟨Nat.le_refl _, 0, rfl, rfl, h⟩ ?_
  rintro n _ _ ⟨hn, v2, rfl, rfl, h⟩
  cases n with
  | zero => rw [F122_l0] at h; cases h
  | succ k1 =>
    rw [F122_l0] at h
    refine AW_seq ?_
    refine zs hT [0, 3, 4, 15] [(0, (.str v1)), (3, (.sl (l50 [[(ByteArray.mk #[124, 124])], [(ByteArray.mk #[38, 38])], [(ByteArray.mk #[61, 61]), (ByteArray.mk #[33, 61]), (ByteArray.mk #[60]), (ByteArray.mk #[60, 61]), (ByteArray.mk #[62]), (ByteArray.mk #[62, 61])], [(ByteArray.mk #[43]), (ByteArray.mk #[45]), (ByteArray.mk #[124]), (ByteArray.mk #[94])], [(ByteArray.mk #[42]), (ByteArray.mk #[47]), (ByteArray.mk #[37]), (ByteArray.mk #[60, 60]), (ByteArray.mk #[62, 62]), (ByteArray.mk #[38])]]))), (4, (aI v2)), (15, (.bool (decide (v2 < ((l50 [[(ByteArray.mk #[124, 124])], [(ByteArray.mk #[38, 38])], [(ByteArray.mk #[61, 61]), (ByteArray.mk #[33, 61]), (ByteArray.mk #[60]), (ByteArray.mk #[60, 61]), (ByteArray.mk #[62]), (ByteArray.mk #[62, 61])], [(ByteArray.mk #[43]), (ByteArray.mk #[45]), (ByteArray.mk #[124]), (ByteArray.mk #[94])], [(ByteArray.mk #[42]), (ByteArray.mk #[47]), (ByteArray.mk #[37]), (ByteArray.mk #[60, 60]), (ByteArray.mk #[62, 62]), (ByteArray.mk #[38])]]).length : Int)))))] ?_
    rcases bif_split h with ⟨h3, h⟩ | ⟨h3, h⟩
    · refine zT h3 ?_
      refine AE_skip ?_
      refine AE_seqN ?_
      refine AW_seq ?_
      refine AW_block ?_
      refine zs hT [0, 3, 4, 5] [(0, (.str v1)), (3, (.sl (l50 [[(ByteArray.mk #[124, 124])], [(ByteArray.mk #[38, 38])], [(ByteArray.mk #[61, 61]), (ByteArray.mk #[33, 61]), (ByteArray.mk #[60]), (ByteArray.mk #[60, 61]), (ByteArray.mk #[62]), (ByteArray.mk #[62, 61])], [(ByteArray.mk #[43]), (ByteArray.mk #[45]), (ByteArray.mk #[124]), (ByteArray.mk #[94])], [(ByteArray.mk #[42]), (ByteArray.mk #[47]), (ByteArray.mk #[37]), (ByteArray.mk #[60, 60]), (ByteArray.mk #[62, 62]), (ByteArray.mk #[38])]]))), (4, (aI v2)), (5, (aI 0))] ?_
      refine AW_block ?_
      refine zKw [0, 3, 4, 5] [(0, (.str v1)), (3, (.sl (l50 [[(ByteArray.mk #[124, 124])], [(ByteArray.mk #[38, 38])], [(ByteArray.mk #[61, 61]), (ByteArray.mk #[33, 61]), (ByteArray.mk #[60]), (ByteArray.mk #[60, 61]), (ByteArray.mk #[62]), (ByteArray.mk #[62, 61])], [(ByteArray.mk #[43]), (ByteArray.mk #[45]), (ByteArray.mk #[124]), (ByteArray.mk #[94])], [(ByteArray.mk #[42]), (ByteArray.mk #[47]), (ByteArray.mk #[37]), (ByteArray.mk #[60, 60]), (ByteArray.mk #[62, 62]), (ByteArray.mk #[38])]]))), (4, (aI v2)), (5, (aI 0))] ?_
      refine AW_loop (fun n env L => n ≤ k1 ∧ ∃ (v3 : Int), env = [(0, (.str v1)), (3, (.sl (l50 [[(ByteArray.mk #[124, 124])], [(ByteArray.mk #[38, 38])], [(ByteArray.mk #[61, 61]), (ByteArray.mk #[33, 61]), (ByteArray.mk #[60]), (ByteArray.mk #[60, 61]), (ByteArray.mk #[62]), (ByteArray.mk #[62, 61])], [(ByteArray.mk #[43]), (ByteArray.mk #[45]), (ByteArray.mk #[124]), (ByteArray.mk #[94])], [(ByteArray.mk #[42]), (ByteArray.mk #[47]), (ByteArray.mk #[37]), (ByteArray.mk #[60, 60]), (ByteArray.mk #[62, 62]), (ByteArray.mk #[38])]]))), (4, (aI v2)), (5, (aI v3))] ∧ L = [] ∧ F122_l1 n v1 v2 v3 = some (r1)) k1 ⟨Nat.le_refl _, 0, rfl, rfl, h⟩ ?_
      rintro n _ _ ⟨hn, v3, rfl, rfl, h⟩
      cases n with
      | zero => rw [F122_l1] at h; cases h
      | succ k4 =>
        rw [F122_l1] at h
        refine AW_seq ?_
        refine AW_seq ?_
        obtain ⟨v4, h6, h⟩ := bsm h
        try dsimp only at h
        refine AW_reg ?_
        refine zm hT 3 [0, 3, 4, 5, 18, 19, 20] [(0, (.str v1)), (3, (.sl (l50 [[(ByteArray.mk #[124, 124])], [(ByteArray.mk #[38, 38])], [(ByteArray.mk #[61, 61]), (ByteArray.mk #[33, 61]), (ByteArray.mk #[60]), (ByteArray.mk #[60, 61]), (ByteArray.mk #[62]), (ByteArray.mk #[62, 61])], [(ByteArray.mk #[43]), (ByteArray.mk #[45]), (ByteArray.mk #[124]), (ByteArray.mk #[94])], [(ByteArray.mk #[42]), (ByteArray.mk #[47]), (ByteArray.mk #[37]), (ByteArray.mk #[60, 60]), (ByteArray.mk #[62, 62]), (ByteArray.mk #[38])]]))), (4, (aI v2)), (5, (aI v3)), (18, (aI v3)), (19, (.sl (l50 [[(ByteArray.mk #[124, 124])], [(ByteArray.mk #[38, 38])], [(ByteArray.mk #[61, 61]), (ByteArray.mk #[33, 61]), (ByteArray.mk #[60]), (ByteArray.mk #[60, 61]), (ByteArray.mk #[62]), (ByteArray.mk #[62, 61])], [(ByteArray.mk #[43]), (ByteArray.mk #[45]), (ByteArray.mk #[124]), (ByteArray.mk #[94])], [(ByteArray.mk #[42]), (ByteArray.mk #[47]), (ByteArray.mk #[37]), (ByteArray.mk #[60, 60]), (ByteArray.mk #[62, 62]), (ByteArray.mk #[38])]]))), (20, (aI v2))] ?_
        refine zO (jX hT 1 (i50 h6)) ?_
        refine ze hT 3 [0, 3, 4, 5, 24] [(0, (.str v1)), (3, (.sl (l50 [[(ByteArray.mk #[124, 124])], [(ByteArray.mk #[38, 38])], [(ByteArray.mk #[61, 61]), (ByteArray.mk #[33, 61]), (ByteArray.mk #[60]), (ByteArray.mk #[60, 61]), (ByteArray.mk #[62]), (ByteArray.mk #[62, 61])], [(ByteArray.mk #[43]), (ByteArray.mk #[45]), (ByteArray.mk #[124]), (ByteArray.mk #[94])], [(ByteArray.mk #[42]), (ByteArray.mk #[47]), (ByteArray.mk #[37]), (ByteArray.mk #[60, 60]), (ByteArray.mk #[62, 62]), (ByteArray.mk #[38])]]))), (4, (aI v2)), (5, (aI v3)), (24, (.bool (decide (v3 < ((l9 v4).length : Int)))))] ?_
        refine AE_seqN ?_
        rcases bif_split h with ⟨h7, h⟩ | ⟨h7, h⟩
        · refine zT h7 ?_
          refine AE_skip ?_
          refine AE_seqN ?_
          refine AW_seq ?_
          refine AW_block ?_
          refine AW_seq ?_
          obtain ⟨v5, h8, h⟩ := bsm h
          try dsimp only at h
          obtain ⟨v6, h9, h⟩ := bsm h
          try dsimp only at h
          refine AW_reg ?_
          refine zm hT 2 [0, 3, 4, 5, 27, 28] [(0, (.str v1)), (3, (.sl (l50 [[(ByteArray.mk #[124, 124])], [(ByteArray.mk #[38, 38])], [(ByteArray.mk #[61, 61]), (ByteArray.mk #[33, 61]), (ByteArray.mk #[60]), (ByteArray.mk #[60, 61]), (ByteArray.mk #[62]), (ByteArray.mk #[62, 61])], [(ByteArray.mk #[43]), (ByteArray.mk #[45]), (ByteArray.mk #[124]), (ByteArray.mk #[94])], [(ByteArray.mk #[42]), (ByteArray.mk #[47]), (ByteArray.mk #[37]), (ByteArray.mk #[60, 60]), (ByteArray.mk #[62, 62]), (ByteArray.mk #[38])]]))), (4, (aI v2)), (5, (aI v3)), (27, (.sl (l50 [[(ByteArray.mk #[124, 124])], [(ByteArray.mk #[38, 38])], [(ByteArray.mk #[61, 61]), (ByteArray.mk #[33, 61]), (ByteArray.mk #[60]), (ByteArray.mk #[60, 61]), (ByteArray.mk #[62]), (ByteArray.mk #[62, 61])], [(ByteArray.mk #[43]), (ByteArray.mk #[45]), (ByteArray.mk #[124]), (ByteArray.mk #[94])], [(ByteArray.mk #[42]), (ByteArray.mk #[47]), (ByteArray.mk #[37]), (ByteArray.mk #[60, 60]), (ByteArray.mk #[62, 62]), (ByteArray.mk #[38])]]))), (28, (aI v2))] ?_
          refine zO (jX hT 1 (i50 h8)) ?_
          refine zm hT 2 [0, 3, 4, 5, 30, 31] [(0, (.str v1)), (3, (.sl (l50 [[(ByteArray.mk #[124, 124])], [(ByteArray.mk #[38, 38])], [(ByteArray.mk #[61, 61]), (ByteArray.mk #[33, 61]), (ByteArray.mk #[60]), (ByteArray.mk #[60, 61]), (ByteArray.mk #[62]), (ByteArray.mk #[62, 61])], [(ByteArray.mk #[43]), (ByteArray.mk #[45]), (ByteArray.mk #[124]), (ByteArray.mk #[94])], [(ByteArray.mk #[42]), (ByteArray.mk #[47]), (ByteArray.mk #[37]), (ByteArray.mk #[60, 60]), (ByteArray.mk #[62, 62]), (ByteArray.mk #[38])]]))), (4, (aI v2)), (5, (aI v3)), (30, (.sl (l9 v5))), (31, (aI v3))] ?_
          refine zO (jX hT 1 (i9 h9)) ?_
          refine ze hT 3 [0, 3, 4, 5, 35] [(0, (.str v1)), (3, (.sl (l50 [[(ByteArray.mk #[124, 124])], [(ByteArray.mk #[38, 38])], [(ByteArray.mk #[61, 61]), (ByteArray.mk #[33, 61]), (ByteArray.mk #[60]), (ByteArray.mk #[60, 61]), (ByteArray.mk #[62]), (ByteArray.mk #[62, 61])], [(ByteArray.mk #[43]), (ByteArray.mk #[45]), (ByteArray.mk #[124]), (ByteArray.mk #[94])], [(ByteArray.mk #[42]), (ByteArray.mk #[47]), (ByteArray.mk #[37]), (ByteArray.mk #[60, 60]), (ByteArray.mk #[62, 62]), (ByteArray.mk #[38])]]))), (4, (aI v2)), (5, (aI v3)), (35, (.bool (v6.toList == v1.toList)))] ?_
          refine AE_seqN ?_
          rcases bif_split h with ⟨h10, h⟩ | ⟨h10, h⟩
          · refine zT h10 ?_
            refine zs hT [2] [(2, (aI (IntKind.wrap .i64 (v2 + 1))))] ?_
            refine AE_ret ?_
            refine AE_blkR ?_
            refine AE_seqR ?_
            refine AE_seqR ?_
            refine AE_blkR ?_
            refine AE_blkR ?_
            refine AE_seqR ?_
            refine AE_seqR ?_
            refine AE_blkR ?_
            refine AE_seqR ?_
            refine zK [2] [(2, (aI (IntKind.wrap .i64 (v2 + 1))))] ?_
            simp only [Option.some.injEq] at h
            subst h
            exact zEnd
          · refine zN h10 ?_
            refine AE_skip ?_
            refine AE_blkN ?_
            refine AE_seqN ?_
            refine zr hT [0, 3, 4, 5] [(0, (.str v1)), (3, (.sl (l50 [[(ByteArray.mk #[124, 124])], [(ByteArray.mk #[38, 38])], [(ByteArray.mk #[61, 61]), (ByteArray.mk #[33, 61]), (ByteArray.mk #[60]), (ByteArray.mk #[60, 61]), (ByteArray.mk #[62]), (ByteArray.mk #[62, 61])], [(ByteArray.mk #[43]), (ByteArray.mk #[45]), (ByteArray.mk #[124]), (ByteArray.mk #[94])], [(ByteArray.mk #[42]), (ByteArray.mk #[47]), (ByteArray.mk #[37]), (ByteArray.mk #[60, 60]), (ByteArray.mk #[62, 62]), (ByteArray.mk #[38])]]))), (4, (aI v2)), (5, (aI (IntKind.wrap .i64 (v3 + 1))))] ?_
            refine zK [0, 3, 4, 5] [(0, (.str v1)), (3, (.sl (l50 [[(ByteArray.mk #[124, 124])], [(ByteArray.mk #[38, 38])], [(ByteArray.mk #[61, 61]), (ByteArray.mk #[33, 61]), (ByteArray.mk #[60]), (ByteArray.mk #[60, 61]), (ByteArray.mk #[62]), (ByteArray.mk #[62, 61])], [(ByteArray.mk #[43]), (ByteArray.mk #[45]), (ByteArray.mk #[124]), (ByteArray.mk #[94])], [(ByteArray.mk #[42]), (ByteArray.mk #[47]), (ByteArray.mk #[37]), (ByteArray.mk #[60, 60]), (ByteArray.mk #[62, 62]), (ByteArray.mk #[38])]]))), (4, (aI v2)), (5, (aI (IntKind.wrap .i64 (v3 + 1))))] ?_
            exact AE_done ⟨k4, by omega, by omega, (IntKind.wrap .i64 (v3 + 1)), rfl, rfl, h⟩
        · refine zN h7 ?_
          refine AE_exit ?_
          refine AE_seqX ?_
          refine AE_seqX ?_
          refine AE_blkH ?_
          refine AE_blkN ?_
          refine AE_seqN ?_
          refine zr hT [0, 3, 4] [(0, (.str v1)), (3, (.sl (l50 [[(ByteArray.mk #[124, 124])], [(ByteArray.mk #[38, 38])], [(ByteArray.mk #[61, 61]), (ByteArray.mk #[33, 61]), (ByteArray.mk #[60]), (ByteArray.mk #[60, 61]), (ByteArray.mk #[62]), (ByteArray.mk #[62, 61])], [(ByteArray.mk #[43]), (ByteArray.mk #[45]), (ByteArray.mk #[124]), (ByteArray.mk #[94])], [(ByteArray.mk #[42]), (ByteArray.mk #[47]), (ByteArray.mk #[37]), (ByteArray.mk #[60, 60]), (ByteArray.mk #[62, 62]), (ByteArray.mk #[38])]]))), (4, (aI (IntKind.wrap .i64 (v2 + 1))))] ?_
          refine zK [0, 3, 4] [(0, (.str v1)), (3, (.sl (l50 [[(ByteArray.mk #[124, 124])], [(ByteArray.mk #[38, 38])], [(ByteArray.mk #[61, 61]), (ByteArray.mk #[33, 61]), (ByteArray.mk #[60]), (ByteArray.mk #[60, 61]), (ByteArray.mk #[62]), (ByteArray.mk #[62, 61])], [(ByteArray.mk #[43]), (ByteArray.mk #[45]), (ByteArray.mk #[124]), (ByteArray.mk #[94])], [(ByteArray.mk #[42]), (ByteArray.mk #[47]), (ByteArray.mk #[37]), (ByteArray.mk #[60, 60]), (ByteArray.mk #[62, 62]), (ByteArray.mk #[38])]]))), (4, (aI (IntKind.wrap .i64 (v2 + 1))))] ?_
          exact AE_done ⟨k4, by omega, by omega, (IntKind.wrap .i64 (v2 + 1)), rfl, rfl, h⟩
    · refine zN h3 ?_
      refine AE_exit ?_
      refine AE_seqX ?_
      refine AE_seqX ?_
      refine AE_blkH ?_
      refine AE_seqN ?_
      refine zs hT [2] [(2, (aI 0))] ?_
      refine AE_ret ?_
      refine zK [2] [(2, (aI 0))] ?_
      simp only [Option.some.injEq] at h
      subst h
      exact zEnd

def F77 (k : Nat) (v1 : Int) : Option (Bool) :=
  (bif (decide (v1 ≥ 97)) then
    some ((decide (v1 ≤ 122)))
  else
    some (false))

theorem F77_ok (k : Nat) : ∀ (v1 : Int) (r1 : Bool), F77 k v1 = some (r1) → Fn prog 77 [(.int .u8 v1)] [] (.bool r1) [] := by
  intro v1 r1 h
  rw [F77] at h
  refine Fn_bodyK hT Go.Proofs.Try.func77 (c := Go.Proofs.Try.f77.body.getD .skip) (by kernel_rfl) (by kernel_rfl) (by kernel_rfl) ?_
  refine zs hT [0] [(0, (.int .u8 v1))] ?_
  refine AW_seq ?_
  rcases bif_split h with ⟨h1, h⟩ | ⟨h1, h⟩
  · refine AW_reg ?_
    refine zm hT 2 [0, 4] [(0, (.int .u8 v1)), (4, (.bool (decide (v1 ≥ 97))))] ?_
    refine zO (jQ hT h1) ?_
    refine ze hT 4 [2] [(2, (.bool (decide (v1 ≤ 122))))] ?_
    refine AE_seqN ?_
    refine AE_ret ?_
    refine zK [2] [(2, (.bool (decide (v1 ≤ 122))))] ?_
    simp only [Option.some.injEq] at h
    subst h
    exact zEnd
  · refine AW_reg ?_
    refine zm hT 2 [0, 4] [(0, (.int .u8 v1)), (4, (.bool (decide (v1 ≥ 97))))] ?_
    refine zO (jQ hT h1) ?_
    refine ze hT 4 [2] [(2, (.bool false))] ?_
    refine AE_seqN ?_
    refine AE_ret ?_
    refine zK [2] [(2, (.bool false))] ?_
    simp only [Option.some.injEq] at h
    subst h
    exact zEnd

def F78 (k : Nat) (v1 : Int) : Option (Bool) :=
  (bif (decide (v1 ≥ 48)) then
    some ((decide (v1 ≤ 57)))
  else
    some (false))

theorem F78_ok (k : Nat) : ∀ (v1 : Int) (r1 : Bool), F78 k v1 = some (r1) → Fn prog 78 [(.int .u8 v1)] [] (.bool r1) [] := by
  intro v1 r1 h
  rw [F78] at h
  refine Fn_bodyK hT Go.Proofs.Try.func78 (c := Go.Proofs.Try.f78.body.getD .skip) (by kernel_rfl) (by kernel_rfl) (by kernel_rfl) ?_
  refine zs hT [0] [(0, (.int .u8 v1))] ?_
  refine AW_seq ?_
  rcases bif_split h with ⟨h1, h⟩ | ⟨h1, h⟩
  · refine AW_reg ?_
    refine zm hT 2 [0, 4] [(0, (.int .u8 v1)), (4, (.bool (decide (v1 ≥ 48))))] ?_
    refine zO (jQ hT h1) ?_
    refine ze hT 4 [2] [(2, (.bool (decide (v1 ≤ 57))))] ?_
    refine AE_seqN ?_
    refine AE_ret ?_
    refine zK [2] [(2, (.bool (decide (v1 ≤ 57))))] ?_
    simp only [Option.some.injEq] at h
    subst h
    exact zEnd
  · refine AW_reg ?_
    refine zm hT 2 [0, 4] [(0, (.int .u8 v1)), (4, (.bool (decide (v1 ≥ 48))))] ?_
    refine zO (jQ hT h1) ?_
    refine ze hT 4 [2] [(2, (.bool false))] ?_
    refine AE_seqN ?_
    refine AE_ret ?_
    refine zK [2] [(2, (.bool false))] ?_
    simp only [Option.some.injEq] at h
    subst h
    exact zEnd

def F79_l0 : Nat → ByteArray → (List ByteArray) → Int → Option (Bool)
  | 0, _, _, _ => none
  | k2 + 1, v1, v2, v3 =>
    (bif (decide (v3 < ((l9 v2).length : Int))) then
      ((idx v2 v3).bind fun v4 =>
        (bif (v4.toList == v1.toList) then
          some (true)
        else
          F79_l0 k2 v1 v2 (IntKind.wrap .i64 (v3 + 1))))
    else
      some (false))

def F79 (k : Nat) (v1 : ByteArray) : Option (Bool) :=
  ((F121 k ).bind fun v2 =>
    F79_l0 k v1 v2 0)

theorem F79_ok (k : Nat) : ∀ (v1 : ByteArray) (r1 : Bool), F79 k v1 = some (r1) → Fn prog 79 [(.str v1)] [] (.bool r1) [] := by
  intro v1 r1 h
  rw [F79] at h
  refine Fn_bodyK hT Go.Proofs.Try.func79 (c := Go.Proofs.Try.f79.body.getD .skip) (by kernel_rfl) (by kernel_rfl) (by kernel_rfl) ?_
  refine zs hT [0] [(0, (.str v1))] ?_
  refine AW_seq ?_
  obtain ⟨v2, h1, h⟩ := bsm h
  try dsimp only at h
  refine AW_reg ?_
  refine zO (jP Go.Proofs.Try.func121 (F121_ok k  v2 h1)) ?_
  refine ze hT 1 [0, 3] [(0, (.str v1)), (3, (.sl (l9 v2)))] ?_
  refine AE_seqN ?_
  refine AW_seq ?_
  refine zs hT [0, 3, 4] [(0, (.str v1)), (3, (.sl (l9 v2))), (4, (aI 0))] ?_
  refine AW_block ?_
  refine zKw [0, 3, 4] [(0, (.str v1)), (3, (.sl (l9 v2))), (4, (aI 0))] ?_
  refine AW_loop (fun n env L => n ≤ k ∧ ∃ (v3 : Int), env = [(0, (.str v1)), (3, (.sl (l9 v2))), (4, (aI v3))] ∧ L = [] ∧ F79_l0 n v1 v2 v3 = some (r1)) k ⟨Nat.le_refl _, 0, rfl, rfl, h⟩ ?_
  rintro n _ _ ⟨hn, v3, rfl, rfl, h⟩
  cases n with
  | zero => rw [F79_l0] at h; cases h
  | succ k2 =>
    rw [F79_l0] at h
    refine AW_seq ?_
    refine zs hT [0, 3, 4, 9] [(0, (.str v1)), (3, (.sl (l9 v2))), (4, (aI v3)), (9, (.bool (decide (v3 < ((l9 v2).length : Int)))))] ?_
    rcases bif_split h with ⟨h4, h⟩ | ⟨h4, h⟩
    · refine zT h4 ?_
      refine AE_skip ?_
      refine AE_seqN ?_
      refine AW_seq ?_
      refine AW_block ?_
      refine AW_seq ?_
      obtain ⟨v4, h5, h⟩ := bsm h
      try dsimp only at h
      refine AW_reg ?_
      refine zm hT 2 [0, 3, 4, 12, 13] [(0, (.str v1)), (3, (.sl (l9 v2))), (4, (aI v3)), (12, (.sl (l9 v2))), (13, (aI v3))] ?_
      refine zO (jX hT 1 (i9 h5)) ?_
      refine ze hT 3 [0, 3, 4, 17] [(0, (.str v1)), (3, (.sl (l9 v2))), (4, (aI v3)), (17, (.bool (v4.toList == v1.toList)))] ?_
      refine AE_seqN ?_
      rcases bif_split h with ⟨h6, h⟩ | ⟨h6, h⟩
      · refine zT h6 ?_
        refine zs hT [2] [(2, (.bool true))] ?_
        refine AE_ret ?_
        refine AE_blkR ?_
        refine AE_seqR ?_
        refine AE_seqR ?_
        refine AE_blkR ?_
        refine AE_seqR ?_
        refine zK [2] [(2, (.bool true))] ?_
        simp only [Option.some.injEq] at h
        subst h
        exact zEnd
      · refine zN h6 ?_
        refine AE_skip ?_
        refine AE_blkN ?_
        refine AE_seqN ?_
        refine zr hT [0, 3, 4] [(0, (.str v1)), (3, (.sl (l9 v2))), (4, (aI (IntKind.wrap .i64 (v3 + 1))))] ?_
        refine zK [0, 3, 4] [(0, (.str v1)), (3, (.sl (l9 v2))), (4, (aI (IntKind.wrap .i64 (v3 + 1))))] ?_
        exact AE_done ⟨k2, by omega, by omega, (IntKind.wrap .i64 (v3 + 1)), rfl, rfl, h⟩
    · refine zN h4 ?_
      refine AE_exit ?_
      refine AE_seqX ?_
      refine AE_seqX ?_
      refine AE_blkH ?_
      refine AE_seqN ?_
      refine zs hT [2] [(2, (.bool false))] ?_
      refine AE_ret ?_
      refine zK [2] [(2, (.bool false))] ?_
      simp only [Option.some.injEq] at h
      subst h
      exact zEnd

mutual
def F38_j1 : Nat → ByteArray → Int → Bool → Option (Bool)
  | 0, _, _, _ => none
  | k10 + 1, v1, v3, v4 =>
    (bif v4 then
      some (false)
    else
      F38_l0 k10 v1 (IntKind.wrap .i64 (v3 + 1)))
def F38_l0 : Nat → ByteArray → Int → Option (Bool)
  | 0, _, _ => none
  | k1 + 1, v1, v2 =>
    (bif (decide (v2 < (v1.size : Int))) then
      ((bidx v1 v2).bind fun v5 =>
        ((F77 k1 v5).bind fun v6 =>
          (bif (!v6) then
            (bif (v2 == 0) then
              F38_j1 k1 v1 v2 true
            else
              ((bidx v1 v2).bind fun v7 =>
                ((F78 k1 v7).bind fun v8 =>
                  F38_j1 k1 v1 v2 (!v8))))
          else
            F38_j1 k1 v1 v2 false)))
    else
      (bif (decide ((v1.size : Int) ≥ 1)) then
        (bif (decide ((v1.size : Int) ≤ 12)) then
          ((F79 k1 v1).bind fun v9 =>
            some ((!v9)))
        else
          some (false))
      else
        some (false)))
end

def F38 (k : Nat) (v1 : ByteArray) : Option (Bool) :=
  F38_l0 k v1 0

theorem F38_ok (k : Nat) : ∀ (v1 : ByteArray) (r1 : Bool), F38 k v1 = some (r1) → Fn prog 38 [(.str v1)] [] (.bool r1) [] := by
  intro v1 r1 h
  rw [F38] at h
  refine Fn_bodyK hT Go.Proofs.Try.func38 (c := Go.Proofs.Try.f38.body.getD .skip) (by kernel_rfl) (by kernel_rfl) (by kernel_rfl) ?_
  refine zs hT [0] [(0, (.str v1))] ?_
  refine AW_seq ?_
  refine zs hT [0, 3] [(0, (.str v1)), (3, (aI 0))] ?_
  refine AW_block ?_
  refine zKw [0, 3] [(0, (.str v1)), (3, (aI 0))] ?_
  refine AW_loop (fun n env L => n ≤ k ∧ ∃ (v2 : Int), env = [(0, (.str v1)), (3, (aI v2))] ∧ L = [] ∧ F38_l0 n v1 v2 = some (r1)) k ⟨Nat.le_refl _, 0, rfl, rfl, h⟩ ?_
  rintro n _ _ ⟨hn, v2, rfl, rfl, h⟩
  cases n with
  | zero => rw [F38_l0] at h; cases h
  | succ k1 =>
    rw [F38_l0] at h
    refine AW_seq ?_
    refine zs hT [0, 3, 7] [(0, (.str v1)), (3, (aI v2)), (7, (.bool (decide (v2 < (v1.size : Int)))))] ?_
    rcases bif_split h with ⟨h3, h⟩ | ⟨h3, h⟩
    · refine zT h3 ?_
      refine AE_skip ?_
      refine AE_seqN ?_
      refine AW_seq ?_
      refine AW_block ?_
      refine AW_join (fun env L => ∃ (v3 : Int) (v4 : Bool), env = [(0, (.str v1)), (3, (aI v3)), (25, (.bool v4))] ∧ L = [] ∧ ∃ n, n ≤ k1 ∧ F38_j1 n v1 v3 v4 = some (r1)) ?_ ?_
      · obtain ⟨v5, h4, h⟩ := bsm h
        try dsimp only at h
        obtain ⟨v6, h5, h⟩ := bsm h
        try dsimp only at h
        rcases bif_split h with ⟨h6, h⟩ | ⟨h6, h⟩
        · rcases bif_split h with ⟨h7, h⟩ | ⟨h7, h⟩
          · refine AW_reg ?_
            refine zm hT 2 [0, 3, 10, 11] [(0, (.str v1)), (3, (aI v2)), (10, (.str v1)), (11, (aI v2))] ?_
            refine zO (jB hT h4) ?_
            refine zO (jP Go.Proofs.Try.func77 (F77_ok k1 v5 v6 h5)) ?_
            refine zm hT 1 [0, 3, 14] [(0, (.str v1)), (3, (aI v2)), (14, (.bool (!v6)))] ?_
            refine zO (jQ hT h6) ?_
            refine zm hT 2 [0, 3, 15, 17] [(0, (.str v1)), (3, (aI v2)), (15, (.bool true)), (17, (.bool (v2 == 0)))] ?_
            refine zO (jQ hT h7) ?_
            refine ze hT 7 [0, 3, 25] [(0, (.str v1)), (3, (aI v2)), (25, (.bool true))] ?_
            refine zK [0, 3, 25] [(0, (.str v1)), (3, (aI v2)), (25, (.bool true))] ?_
            exact AE_done ⟨v2, true, rfl, rfl, k1, by omega, h⟩
          · obtain ⟨v7, h8, h⟩ := bsm h
            try dsimp only at h
            obtain ⟨v8, h9, h⟩ := bsm h
            try dsimp only at h
            refine AW_reg ?_
            refine zm hT 2 [0, 3, 10, 11] [(0, (.str v1)), (3, (aI v2)), (10, (.str v1)), (11, (aI v2))] ?_
            refine zO (jB hT h4) ?_
            refine zO (jP Go.Proofs.Try.func77 (F77_ok k1 v5 v6 h5)) ?_
            refine zm hT 1 [0, 3, 14] [(0, (.str v1)), (3, (aI v2)), (14, (.bool (!v6)))] ?_
            refine zO (jQ hT h6) ?_
            refine zm hT 2 [0, 3, 15, 17] [(0, (.str v1)), (3, (aI v2)), (15, (.bool true)), (17, (.bool (v2 == 0)))] ?_
            refine zO (jQ hT h7) ?_
            refine zm hT 2 [0, 3, 15, 18, 19, 20] [(0, (.str v1)), (3, (aI v2)), (15, (.bool true)), (18, (.bool false)), (19, (.str v1)), (20, (aI v2))] ?_
            refine zO (jB hT h8) ?_
            refine zO (jP Go.Proofs.Try.func78 (F78_ok k1 v7 v8 h9)) ?_
            refine ze hT 3 [0, 3, 25] [(0, (.str v1)), (3, (aI v2)), (25, (.bool (!v8)))] ?_
            refine zK [0, 3, 25] [(0, (.str v1)), (3, (aI v2)), (25, (.bool (!v8)))] ?_
            exact AE_done ⟨v2, (!v8), rfl, rfl, k1, by omega, h⟩
        · refine AW_reg ?_
          refine zm hT 2 [0, 3, 10, 11] [(0, (.str v1)), (3, (aI v2)), (10, (.str v1)), (11, (aI v2))] ?_
          refine zO (jB hT h4) ?_
          refine zO (jP Go.Proofs.Try.func77 (F77_ok k1 v5 v6 h5)) ?_
          refine zm hT 1 [0, 3, 14] [(0, (.str v1)), (3, (aI v2)), (14, (.bool (!v6)))] ?_
          refine zO (jQ hT h6) ?_
          refine ze hT 10 [0, 3, 25] [(0, (.str v1)), (3, (aI v2)), (25, (.bool false))] ?_
          refine zK [0, 3, 25] [(0, (.str v1)), (3, (aI v2)), (25, (.bool false))] ?_
          exact AE_done ⟨v2, false, rfl, rfl, k1, by omega, h⟩
      · rintro _ _ ⟨v3, v4, rfl, rfl, n, hn, h⟩
        obtain _ | k10 := n
        · rw [F38_j1] at h; cases h
        rw [F38_j1] at h
        rcases bif_split h with ⟨h12, h⟩ | ⟨h12, h⟩
        · refine zT h12 ?_
          refine zs hT [2] [(2, (.bool false))] ?_
          refine AE_ret ?_
          refine AE_blkR ?_
          refine AE_seqR ?_
          refine AE_seqR ?_
          refine AE_blkR ?_
          refine AE_seqR ?_
          refine zK [2] [(2, (.bool false))] ?_
          simp only [Option.some.injEq] at h
          subst h
          exact zEnd
        · refine zN h12 ?_
          refine AE_skip ?_
          refine AE_blkN ?_
          refine AE_seqN ?_
          refine zr hT [0, 3] [(0, (.str v1)), (3, (aI (IntKind.wrap .i64 (v3 + 1))))] ?_
          refine zK [0, 3] [(0, (.str v1)), (3, (aI (IntKind.wrap .i64 (v3 + 1))))] ?_
          exact AE_done ⟨k10, by omega, by omega, (IntKind.wrap .i64 (v3 + 1)), rfl, rfl, h⟩
    · refine zN h3 ?_
      refine AE_exit ?_
      refine AE_seqX ?_
      refine AE_seqX ?_
      refine AE_blkH ?_
      refine AE_seqN ?_
      refine AW_seq ?_
      rcases bif_split h with ⟨h13, h⟩ | ⟨h13, h⟩
      · rcases bif_split h with ⟨h14, h⟩ | ⟨h14, h⟩
        · obtain ⟨v9, h15, h⟩ := bsm h
          try dsimp only at h
          refine AW_reg ?_
          refine zm hT 3 [0, 28] [(0, (.str v1)), (28, (.bool (decide ((v1.size : Int) ≥ 1))))] ?_
          refine zO (jQ hT h13) ?_
          refine zm hT 4 [0, 33] [(0, (.str v1)), (33, (.bool (decide ((v1.size : Int) ≤ 12))))] ?_
          refine zO (jQ hT h14) ?_
          refine zm hT 1 [34, 35] [(34, (.bool true)), (35, (.str v1))] ?_
          refine zO (jP Go.Proofs.Try.func79 (F79_ok k1 v1 v9 h15)) ?_
          refine ze hT 3 [2] [(2, (.bool (!v9)))] ?_
          refine AE_seqN ?_
          refine AE_ret ?_
          refine zK [2] [(2, (.bool (!v9)))] ?_
          simp only [Option.some.injEq] at h
          subst h
          exact zEnd
        · refine AW_reg ?_
          refine zm hT 3 [0, 28] [(0, (.str v1)), (28, (.bool (decide ((v1.size : Int) ≥ 1))))] ?_
          refine zO (jQ hT h13) ?_
          refine zm hT 4 [0, 33] [(0, (.str v1)), (33, (.bool (decide ((v1.size : Int) ≤ 12))))] ?_
          refine zO (jQ hT h14) ?_
          refine ze hT 5 [2] [(2, (.bool false))] ?_
          refine AE_seqN ?_
          refine AE_ret ?_
          refine zK [2] [(2, (.bool false))] ?_
          simp only [Option.some.injEq] at h
          subst h
          exact zEnd
      · refine AW_reg ?_
        refine zm hT 3 [0, 28] [(0, (.str v1)), (28, (.bool (decide ((v1.size : Int) ≥ 1))))] ?_
        refine zO (jQ hT h13) ?_
        refine ze hT 10 [2] [(2, (.bool false))] ?_
        refine AE_seqN ?_
        refine AE_ret ?_
        refine zK [2] [(2, (.bool false))] ?_
        simp only [Option.some.injEq] at h
        subst h
        exact zEnd

def F80 (k : Nat) : Option ((List T119)) :=
  some ([(T119.mk 0 0 0 0 0), (T119.mk 0 1 1 0 0), (T119.mk 1 1 0 0 0), (T119.mk 1 0 1 0 0), (T119.mk 1 1 0 0 0), (T119.mk 1 0 1 0 0), (T119.mk 1 1 1 0 0), (T119.mk 1 1 2 0 0), (T119.mk 1 0 0 1 0), (T119.mk 1 0 1 0 0), (T119.mk 1 1 0 0 0), (T119.mk 1 0 0 0 0), (T119.mk 0 0 1 1 1), (T119.mk 1 0 1 1 0), (T119.mk 1 0 0 0 0), (T119.mk 1 0 0 0 0), (T119.mk 0 0 1 0 0)])

theorem F80_ok (k : Nat) : ∀  (r1 : (List T119)), F80 k = some (r1) → Fn prog 80 [] [] (.sl (l119 r1)) [] := by
  intro r1 h
  rw [F80] at h
  refine Fn_bodyK hT Go.Proofs.Try.func80 (c := Go.Proofs.Try.f80.body.getD .skip) (by kernel_rfl) (by kernel_rfl) (by kernel_rfl) ?_
  refine zs hT [] [] ?_
  refine AW_seq ?_
  refine AW_reg ?_
  refine zm hT 17 [1, 2, 3, 4, 5, 6, 7, 8, 9, 10, 11, 12, 13, 14, 15, 16, 17] [(1, (.agg [(aI 0), (aI 0), (aI 0), (aI 0), (aI 0)])), (2, (.agg [(aI 0), (aI 1), (aI 1), (aI 0), (aI 0)])), (3, (.agg [(aI 1), (aI 1), (aI 0), (aI 0), (aI 0)])), (4, (.agg [(aI 1), (aI 0), (aI 1), (aI 0), (aI 0)])), (5, (.agg [(aI 1), (aI 1), (aI 0), (aI 0), (aI 0)])), (6, (.agg [(aI 1), (aI 0), (aI 1), (aI 0), (aI 0)])), (7, (.agg [(aI 1), (aI 1), (aI 1), (aI 0), (aI 0)])), (8, (.agg [(aI 1), (aI 1), (aI 2), (aI 0), (aI 0)])), (9, (.agg [(aI 1), (aI 0), (aI 0), (aI 1), (aI 0)])), (10, (.agg [(aI 1), (aI 0), (aI 1), (aI 0), (aI 0)])), (11, (.agg [(aI 1), (aI 1), (aI 0), (aI 0), (aI 0)])), (12, (.agg [(aI 1), (aI 0), (aI 0), (aI 0), (aI 0)])), (13, (.agg [(aI 0), (aI 0), (aI 1), (aI 1), (aI 1)])), (14, (.agg [(aI 1), (aI 0), (aI 1), (aI 1), (aI 0)])), (15, (.agg [(aI 1), (aI 0), (aI 0), (aI 0), (aI 0)])), (16, (.agg [(aI 1), (aI 0), (aI 0), (aI 0), (aI 0)])), (17, (.agg [(aI 0), (aI 0), (aI 1), (aI 0), (aI 0)]))] ?_
  refine zO (jL hT 119 5 [(.agg [(aI 0), (aI 0), (aI 0), (aI 0), (aI 0)]), (.agg [(aI 0), (aI 1), (aI 1), (aI 0), (aI 0)]), (.agg [(aI 1), (aI 1), (aI 0), (aI 0), (aI 0)]), (.agg [(aI 1), (aI 0), (aI 1), (aI 0), (aI 0)]), (.agg [(aI 1), (aI 1), (aI 0), (aI 0), (aI 0)]), (.agg [(aI 1), (aI 0), (aI 1), (aI 0), (aI 0)]), (.agg [(aI 1), (aI 1), (aI 1), (aI 0), (aI 0)]), (.agg [(aI 1), (aI 1), (aI 2), (aI 0), (aI 0)]), (.agg [(aI 1), (aI 0), (aI 0), (aI 1), (aI 0)]), (.agg [(aI 1), (aI 0), (aI 1), (aI 0), (aI 0)]), (.agg [(aI 1), (aI 1), (aI 0), (aI 0), (aI 0)]), (.agg [(aI 1), (aI 0), (aI 0), (aI 0), (aI 0)]), (.agg [(aI 0), (aI 0), (aI 1), (aI 1), (aI 1)]), (.agg [(aI 1), (aI 0), (aI 1), (aI 1), (aI 0)]), (.agg [(aI 1), (aI 0), (aI 0), (aI 0), (aI 0)]), (.agg [(aI 1), (aI 0), (aI 0), (aI 0), (aI 0)]), (.agg [(aI 0), (aI 0), (aI 1), (aI 0), (aI 0)])] 0) ?_
  refine ze hT 1 [0] [(0, (.sl (l119 [(T119.mk 0 0 0 0 0), (T119.mk 0 1 1 0 0), (T119.mk 1 1 0 0 0), (T119.mk 1 0 1 0 0), (T119.mk 1 1 0 0 0), (T119.mk 1 0 1 0 0), (T119.mk 1 1 1 0 0), (T119.mk 1 1 2 0 0), (T119.mk 1 0 0 1 0), (T119.mk 1 0 1 0 0), (T119.mk 1 1 0 0 0), (T119.mk 1 0 0 0 0), (T119.mk 0 0 1 1 1), (T119.mk 1 0 1 1 0), (T119.mk 1 0 0 0 0), (T119.mk 1 0 0 0 0), (T119.mk 0 0 1 0 0)])))] ?_
  refine AE_seqN ?_
  refine AE_ret ?_
  refine zK [0] [(0, (.sl (l119 [(T119.mk 0 0 0 0 0), (T119.mk 0 1 1 0 0), (T119.mk 1 1 0 0 0), (T119.mk 1 0 1 0 0), (T119.mk 1 1 0 0 0), (T119.mk 1 0 1 0 0), (T119.mk 1 1 1 0 0), (T119.mk 1 1 2 0 0), (T119.mk 1 0 0 1 0), (T119.mk 1 0 1 0 0), (T119.mk 1 1 0 0 0), (T119.mk 1 0 0 0 0), (T119.mk 0 0 1 1 1), (T119.mk 1 0 1 1 0), (T119.mk 1 0 0 0 0), (T119.mk 1 0 0 0 0), (T119.mk 0 0 1 0 0)])))] ?_
  simp only [Option.some.injEq] at h
  subst h
  exact zEnd

def F81 (k : Nat) (v1 : ByteArray) (v2 : Int) : Option (Bool) :=
  (bif (v2 == 1) then
    ((F38 k v1).bind fun v3 =>
      some (v3))
  else
    some ((v1.toList == (ByteArray.mk #[]).toList)))

theorem F81_ok (k : Nat) : ∀ (v1 : ByteArray) (v2 : Int) (r1 : Bool), F81 k v1 v2 = some (r1) → Fn prog 81 [(.str v1), (aI v2)] [] (.bool r1) [] := by
  intro v1 v2 r1 h
  rw [F81] at h
  refine Fn_bodyK hT Go.Proofs.Try.func81 (c := Go.Proofs.Try.f81.body.getD .skip) (by kernel_rfl) (by kernel_rfl) (by kernel_rfl) ?_
  refine zs hT [0, 1] [(0, (.str v1)), (1, (aI v2))] ?_
  refine AW_seq ?_
  refine zs hT [0, 6] [(0, (.str v1)), (6, (.bool (v2 == 1)))] ?_
  rcases bif_split h with ⟨h1, h⟩ | ⟨h1, h⟩
  · refine zT h1 ?_
    refine AW_seq ?_
    obtain ⟨v3, h2, h⟩ := bsm h
    try dsimp only at h
    refine AW_reg ?_
    refine zm hT 1 [7] [(7, (.str v1))] ?_
    refine zO (jP Go.Proofs.Try.func38 (F38_ok k v1 v3 h2)) ?_
    refine ze hT 1 [4] [(4, (.bool v3))] ?_
    refine AE_seqN ?_
    refine AE_ret ?_
    refine AE_seqR ?_
    refine zK [4] [(4, (.bool v3))] ?_
    simp only [Option.some.injEq] at h
    subst h
    exact zEnd
  · refine zN h1 ?_
    refine AE_skip ?_
    refine AE_seqN ?_
    refine zs hT [4] [(4, (.bool (v1.toList == (ByteArray.mk #[]).toList)))] ?_
    refine AE_ret ?_
    refine zK [4] [(4, (.bool (v1.toList == (ByteArray.mk #[]).toList)))] ?_
    simp only [Option.some.injEq] at h
    subst h
    exact zEnd

mutual
def F82 : Nat → Int → ByteArray → Int → ByteArray → (List T57) → Int → Int → Option (Int)
  | 0, _, _, _, _, _, _, _ => none
  | k + 1, v1, v2, v3, v4, v5, v6, v7 =>
    (bif (v1 == 1) then
      (bif (v2.toList == (ByteArray.mk #[]).toList) then
        (bif (v4.toList == (ByteArray.mk #[]).toList) then
          (bif (decide (v3 ≥ 0)) then
            (bif (decide (v3 ≤ 65535)) then
              F82_j0 k v7 v1 v2 v3 v4 v5 (((l57 v5).length : Int) == 0)
            else
              F82_j0 k v7 v1 v2 v3 v4 v5 false)
          else
            F82_j0 k v7 v1 v2 v3 v4 v5 false)
        else
          F82_j0 k v7 v1 v2 v3 v4 v5 false)
      else
        F82_j0 k v7 v1 v2 v3 v4 v5 false)
    else
      F82_j0 k v7 v1 v2 v3 v4 v5 false)
def F82_j0 : Nat → Int → Int → ByteArray → Int → ByteArray → (List T57) → Bool → Option (Int)
  | 0, _, _, _, _, _, _, _ => none
  | k6 + 1, v7, v1, v2, v3, v4, v5, v8 =>
    (bif (v1 == 2) then
      (bif (v2.toList == (ByteArray.mk #[]).toList) then
        (bif (v3 == 0) then
          ((F38 k6 v4).bind fun v10 =>
            (bif v10 then
              F82_j1 k6 v7 v8 v1 v2 v3 v4 v5 (((l57 v5).length : Int) == 0)
            else
              F82_j1 k6 v7 v8 v1 v2 v3 v4 v5 false))
        else
          F82_j1 k6 v7 v8 v1 v2 v3 v4 v5 false)
      else
        F82_j1 k6 v7 v8 v1 v2 v3 v4 v5 false)
    else
      F82_j1 k6 v7 v8 v1 v2 v3 v4 v5 false)
def F82_j1 : Nat → Int → Bool → Int → ByteArray → Int → ByteArray → (List T57) → Bool → Option (Int)
  | 0, _, _, _, _, _, _, _, _ => none
  | k13 + 1, v7, v8, v1, v2, v3, v4, v5, v9 =>
    (bif (v1 == 3) then
      (bif (v2.toList == (ByteArray.mk #[45]).toList) then
        (bif (v3 == 0) then
          (bif (v4.toList == (ByteArray.mk #[]).toList) then
            F82_j2 k13 v7 v8 v9 v1 v2 v3 v4 v5 (((l57 v5).length : Int) == 1)
          else
            F82_j2 k13 v7 v8 v9 v1 v2 v3 v4 v5 false)
        else
          F82_j2 k13 v7 v8 v9 v1 v2 v3 v4 v5 false)
      else
        (bif (v2.toList == (ByteArray.mk #[126]).toList) then
          (bif (v3 == 0) then
            (bif (v4.toList == (ByteArray.mk #[]).toList) then
              F82_j2 k13 v7 v8 v9 v1 v2 v3 v4 v5 (((l57 v5).length : Int) == 1)
            else
              F82_j2 k13 v7 v8 v9 v1 v2 v3 v4 v5 false)
          else
            F82_j2 k13 v7 v8 v9 v1 v2 v3 v4 v5 false)
        else
          (bif (v2.toList == (ByteArray.mk #[33]).toList) then
            (bif (v3 == 0) then
              (bif (v4.toList == (ByteArray.mk #[]).toList) then
                F82_j2 k13 v7 v8 v9 v1 v2 v3 v4 v5 (((l57 v5).length : Int) == 1)
              else
                F82_j2 k13 v7 v8 v9 v1 v2 v3 v4 v5 false)
            else
              F82_j2 k13 v7 v8 v9 v1 v2 v3 v4 v5 false)
          else
            F82_j2 k13 v7 v8 v9 v1 v2 v3 v4 v5 false)))
    else
      F82_j2 k13 v7 v8 v9 v1 v2 v3 v4 v5 false)
def F82_j2 : Nat → Int → Bool → Bool → Int → ByteArray → Int → ByteArray → (List T57) → Bool → Option (Int)
  | 0, _, _, _, _, _, _, _, _, _ => none
  | k25 + 1, v7, v8, v9, v1, v2, v3, v4, v5, v11 =>
    (bif (v1 == 4) then
      ((F122 k25 v2).bind fun v13 =>
        (bif (decide (v13 > 0)) then
          (bif (v3 == 0) then
            (bif (v4.toList == (ByteArray.mk #[]).toList) then
              F82_j3 k25 v7 v8 v9 v11 v5 (((l57 v5).length : Int) == 2)
            else
              F82_j3 k25 v7 v8 v9 v11 v5 false)
          else
            F82_j3 k25 v7 v8 v9 v11 v5 false)
        else
          F82_j3 k25 v7 v8 v9 v11 v5 false))
    else
      F82_j3 k25 v7 v8 v9 v11 v5 false)
def F82_j3 : Nat → Int → Bool → Bool → Bool → (List T57) → Bool → Option (Int)
  | 0, _, _, _, _, _, _ => none
  | k32 + 1, v7, v8, v9, v11, v5, v12 =>
    (bif (decide (v7 < 1)) then
      F82_j4 k32 v7 v5 true
    else
      (bif (!v8) then
        (bif (!v9) then
          (bif (!v11) then
            F82_j4 k32 v7 v5 (!v12)
          else
            F82_j4 k32 v7 v5 false)
        else
          F82_j4 k32 v7 v5 false)
      else
        F82_j4 k32 v7 v5 false))
def F82_j4 : Nat → Int → (List T57) → Bool → Option (Int)
  | 0, _, _, _ => none
  | k38 + 1, v7, v5, v14 =>
    (bif v14 then
      some ((-1))
    else
      F82_l5 k38 v7 v5 1 0)
def F82_j6 : Nat → Int → (List T57) → Int → Int → Int → Bool → Option (Int)
  | 0, _, _, _, _, _, _ => none
  | k47 + 1, v7, v5, v24, v25, v26, v27 =>
    (bif v27 then
      some ((-1))
    else
      F82_l5 k47 v7 v5 (IntKind.wrap .i64 (v24 + v26)) (IntKind.wrap .i64 (v25 + 1)))
def F82_l5 : Nat → Int → (List T57) → Int → Int → Option (Int)
  | 0, _, _, _, _ => none
  | k41 + 1, v7, v5, v15, v16 =>
    (bif (decide (v16 < ((l57 v5).length : Int))) then
      ((idx v5 v16).bind fun ⟨v17, v18, v19, v20, v21, v22⟩ =>
        ((F82 k41 v17 v18 v19 v20 v21 v22 (IntKind.wrap .i64 (v7 - 1))).bind fun v23 =>
          (bif (decide (v23 < 0)) then
            F82_j6 k41 v7 v5 v15 v16 v23 true
          else
            F82_j6 k41 v7 v5 v15 v16 v23 (decide (v23 > 10000)))))
    else
      some (v15))
end

theorem F82_step (K0 : Nat) (ih_F82 : ∀ k, k < K0 → ∀ (v1 : Int) (v2 : ByteArray) (v3 : Int) (v4 : ByteArray) (v5 : (List T57)) (v6 : Int) (v7 : Int) (r1 : Int), F82 k v1 v2 v3 v4 v5 v6 v7 = some (r1) → Fn prog 82 [(.agg [(aI v1), (.str v2), (aI v3), (.str v4), (.sl (l57 v5)), (aI v6)]), (aI v7)] [] (aI r1) []) : ∀ (v1 : Int) (v2 : ByteArray) (v3 : Int) (v4 : ByteArray) (v5 : (List T57)) (v6 : Int) (v7 : Int) (r1 : Int), F82 K0 v1 v2 v3 v4 v5 v6 v7 = some (r1) → Fn prog 82 [(.agg [(aI v1), (.str v2), (aI v3), (.str v4), (.sl (l57 v5)), (aI v6)]), (aI v7)] [] (aI r1) [] := by
  intro v1 v2 v3 v4 v5 v6 v7 r1 h
  cases K0 with
  | zero => rw [F82] at h; cases h
  | succ k =>
    have hk : k < k + 1 := Nat.lt_succ_self k
    rw [F82] at h
    refine Fn_bodyK hT Go.Proofs.Try.func82 (c := Go.Proofs.Try.f82.body.getD .skip) (by kernel_rfl) (by kernel_rfl) (by kernel_rfl) ?_
    refine zS hT [1, 2] [(1, (aI v7)), (2, (.ptr 0 0))] [.cells [(aI v1), (.str v2), (aI v3), (.str v4), (.sl (l57 v5)), (aI v6)]] ?_
    refine AW_join (fun env L => ∃ (v8 : Bool), env = [(1, (aI v7)), (2, (.ptr 0 0)), (5, (.bool v8))] ∧ L = [.cells [(aI v1), (.str v2), (aI v3), (.str v4), (.sl (l57 v5)), (aI v6)]] ∧ ∃ n, n ≤ k ∧ F82_j0 n v7 v1 v2 v3 v4 v5 v8 = some (r1)) ?_ ?_
    · rcases bif_split h with ⟨h1, h⟩ | ⟨h1, h⟩
      · rcases bif_split h with ⟨h2, h⟩ | ⟨h2, h⟩
        · rcases bif_split h with ⟨h3, h⟩ | ⟨h3, h⟩
          · rcases bif_split h with ⟨h4, h⟩ | ⟨h4, h⟩
            · rcases bif_split h with ⟨h5, h⟩ | ⟨h5, h⟩
              · refine AW_reg ?_
                refine zm hT 3 [1, 2, 14] [(1, (aI v7)), (2, (.ptr 0 0)), (14, (.bool (v1 == 1)))] ?_
                refine zO (jQ hT h1) ?_
                refine zm hT 4 [1, 2, 19] [(1, (aI v7)), (2, (.ptr 0 0)), (19, (.bool (v2.toList == (ByteArray.mk #[]).toList)))] ?_
                refine zO (jQ hT h2) ?_
                refine zm hT 4 [1, 2, 24] [(1, (aI v7)), (2, (.ptr 0 0)), (24, (.bool (v4.toList == (ByteArray.mk #[]).toList)))] ?_
                refine zO (jQ hT h3) ?_
                refine zm hT 4 [1, 2, 29] [(1, (aI v7)), (2, (.ptr 0 0)), (29, (.bool (decide (v3 ≥ 0))))] ?_
                refine zO (jQ hT h4) ?_
                refine zm hT 4 [1, 2, 34] [(1, (aI v7)), (2, (.ptr 0 0)), (34, (.bool (decide (v3 ≤ 65535))))] ?_
                refine zO (jQ hT h5) ?_
                refine ze hT 6 [1, 2, 5] [(1, (aI v7)), (2, (.ptr 0 0)), (5, (.bool (((l57 v5).length : Int) == 0)))] ?_
                refine zK [1, 2, 5] [(1, (aI v7)), (2, (.ptr 0 0)), (5, (.bool (((l57 v5).length : Int) == 0)))] ?_
                exact AE_done ⟨(((l57 v5).length : Int) == 0), rfl, rfl, k, by omega, h⟩
              · refine AW_reg ?_
                refine zm hT 3 [1, 2, 14] [(1, (aI v7)), (2, (.ptr 0 0)), (14, (.bool (v1 == 1)))] ?_
                refine zO (jQ hT h1) ?_
                refine zm hT 4 [1, 2, 19] [(1, (aI v7)), (2, (.ptr 0 0)), (19, (.bool (v2.toList == (ByteArray.mk #[]).toList)))] ?_
                refine zO (jQ hT h2) ?_
                refine zm hT 4 [1, 2, 24] [(1, (aI v7)), (2, (.ptr 0 0)), (24, (.bool (v4.toList == (ByteArray.mk #[]).toList)))] ?_
                refine zO (jQ hT h3) ?_
                refine zm hT 4 [1, 2, 29] [(1, (aI v7)), (2, (.ptr 0 0)), (29, (.bool (decide (v3 ≥ 0))))] ?_
                refine zO (jQ hT h4) ?_
                refine zm hT 4 [1, 2, 34] [(1, (aI v7)), (2, (.ptr 0 0)), (34, (.bool (decide (v3 ≤ 65535))))] ?_
                refine zO (jQ hT h5) ?_
                refine ze hT 6 [1, 2, 5] [(1, (aI v7)), (2, (.ptr 0 0)), (5, (.bool false))] ?_
                refine zK [1, 2, 5] [(1, (aI v7)), (2, (.ptr 0 0)), (5, (.bool false))] ?_
                exact AE_done ⟨false, rfl, rfl, k, by omega, h⟩
            · refine AW_reg ?_
              refine zm hT 3 [1, 2, 14] [(1, (aI v7)), (2, (.ptr 0 0)), (14, (.bool (v1 == 1)))] ?_
              refine zO (jQ hT h1) ?_
              refine zm hT 4 [1, 2, 19] [(1, (aI v7)), (2, (.ptr 0 0)), (19, (.bool (v2.toList == (ByteArray.mk #[]).toList)))] ?_
              refine zO (jQ hT h2) ?_
              refine zm hT 4 [1, 2, 24] [(1, (aI v7)), (2, (.ptr 0 0)), (24, (.bool (v4.toList == (ByteArray.mk #[]).toList)))] ?_
              refine zO (jQ hT h3) ?_
              refine zm hT 4 [1, 2, 29] [(1, (aI v7)), (2, (.ptr 0 0)), (29, (.bool (decide (v3 ≥ 0))))] ?_
              refine zO (jQ hT h4) ?_
              refine ze hT 11 [1, 2, 5] [(1, (aI v7)), (2, (.ptr 0 0)), (5, (.bool false))] ?_
              refine zK [1, 2, 5] [(1, (aI v7)), (2, (.ptr 0 0)), (5, (.bool false))] ?_
              exact AE_done ⟨false, rfl, rfl, k, by omega, h⟩
          · refine AW_reg ?_
            refine zm hT 3 [1, 2, 14] [(1, (aI v7)), (2, (.ptr 0 0)), (14, (.bool (v1 == 1)))] ?_
            refine zO (jQ hT h1) ?_
            refine zm hT 4 [1, 2, 19] [(1, (aI v7)), (2, (.ptr 0 0)), (19, (.bool (v2.toList == (ByteArray.mk #[]).toList)))] ?_
            refine zO (jQ hT h2) ?_
            refine zm hT 4 [1, 2, 24] [(1, (aI v7)), (2, (.ptr 0 0)), (24, (.bool (v4.toList == (ByteArray.mk #[]).toList)))] ?_
            refine zO (jQ hT h3) ?_
            refine ze hT 16 [1, 2, 5] [(1, (aI v7)), (2, (.ptr 0 0)), (5, (.bool false))] ?_
            refine zK [1, 2, 5] [(1, (aI v7)), (2, (.ptr 0 0)), (5, (.bool false))] ?_
            exact AE_done ⟨false, rfl, rfl, k, by omega, h⟩
        · refine AW_reg ?_
          refine zm hT 3 [1, 2, 14] [(1, (aI v7)), (2, (.ptr 0 0)), (14, (.bool (v1 == 1)))] ?_
          refine zO (jQ hT h1) ?_
          refine zm hT 4 [1, 2, 19] [(1, (aI v7)), (2, (.ptr 0 0)), (19, (.bool (v2.toList == (ByteArray.mk #[]).toList)))] ?_
          refine zO (jQ hT h2) ?_
          refine ze hT 21 [1, 2, 5] [(1, (aI v7)), (2, (.ptr 0 0)), (5, (.bool false))] ?_
          refine zK [1, 2, 5] [(1, (aI v7)), (2, (.ptr 0 0)), (5, (.bool false))] ?_
          exact AE_done ⟨false, rfl, rfl, k, by omega, h⟩
      · refine AW_reg ?_
        refine zm hT 3 [1, 2, 14] [(1, (aI v7)), (2, (.ptr 0 0)), (14, (.bool (v1 == 1)))] ?_
        refine zO (jQ hT h1) ?_
        refine ze hT 26 [1, 2, 5] [(1, (aI v7)), (2, (.ptr 0 0)), (5, (.bool false))] ?_
        refine zK [1, 2, 5] [(1, (aI v7)), (2, (.ptr 0 0)), (5, (.bool false))] ?_
        exact AE_done ⟨false, rfl, rfl, k, by omega, h⟩
    · rintro _ _ ⟨v8, rfl, rfl, n, hn, h⟩
      obtain _ | k6 := n
      · rw [F82_j0] at h; cases h
      have h7 : k6 < (k + 1) := by omega
      rw [F82_j0] at h
      refine AW_join (fun env L => ∃ (v9 : Bool), env = [(1, (aI v7)), (2, (.ptr 0 0)), (5, (.bool v8)), (6, (.bool v9))] ∧ L = [.cells [(aI v1), (.str v2), (aI v3), (.str v4), (.sl (l57 v5)), (aI v6)]] ∧ ∃ n, n ≤ k6 ∧ F82_j1 n v7 v8 v1 v2 v3 v4 v5 v9 = some (r1)) ?_ ?_
      · rcases bif_split h with ⟨h8, h⟩ | ⟨h8, h⟩
        · rcases bif_split h with ⟨h9, h⟩ | ⟨h9, h⟩
          · rcases bif_split h with ⟨h10, h⟩ | ⟨h10, h⟩
            · obtain ⟨v10, h11, h⟩ := bsm h
              try dsimp only at h
              rcases bif_split h with ⟨h12, h⟩ | ⟨h12, h⟩
              · refine AW_reg ?_
                refine zm hT 3 [1, 2, 5, 43] [(1, (aI v7)), (2, (.ptr 0 0)), (5, (.bool v8)), (43, (.bool (v1 == 2)))] ?_
                refine zO (jQ hT h8) ?_
                refine zm hT 4 [1, 2, 5, 48] [(1, (aI v7)), (2, (.ptr 0 0)), (5, (.bool v8)), (48, (.bool (v2.toList == (ByteArray.mk #[]).toList)))] ?_
                refine zO (jQ hT h9) ?_
                refine zm hT 4 [1, 2, 5, 53] [(1, (aI v7)), (2, (.ptr 0 0)), (5, (.bool v8)), (53, (.bool (v3 == 0)))] ?_
                refine zO (jQ hT h10) ?_
                refine zm hT 2 [1, 2, 5, 54, 56] [(1, (aI v7)), (2, (.ptr 0 0)), (5, (.bool v8)), (54, (.bool true)), (56, (.str v4))] ?_
                refine zO (jP Go.Proofs.Try.func38 (F38_ok k6 v4 v10 h11)) ?_
                refine zm hT 1 [1, 2, 5, 58] [(1, (aI v7)), (2, (.ptr 0 0)), (5, (.bool v8)), (58, (.bool v10))] ?_
                refine zO (jQ hT h12) ?_
                refine ze hT 6 [1, 2, 5, 6] [(1, (aI v7)), (2, (.ptr 0 0)), (5, (.bool v8)), (6, (.bool (((l57 v5).length : Int) == 0)))] ?_
                refine zK [1, 2, 5, 6] [(1, (aI v7)), (2, (.ptr 0 0)), (5, (.bool v8)), (6, (.bool (((l57 v5).length : Int) == 0)))] ?_
                exact AE_done ⟨(((l57 v5).length : Int) == 0), rfl, rfl, k6, by omega, h⟩
              · refine AW_reg ?_
                refine zm hT 3 [1, 2, 5, 43] [(1, (aI v7)), (2, (.ptr 0 0)), (5, (.bool v8)), (43, (.bool (v1 == 2)))] ?_
                refine zO (jQ hT h8) ?_
                refine zm hT 4 [1, 2, 5, 48] [(1, (aI v7)), (2, (.ptr 0 0)), (5, (.bool v8)), (48, (.bool (v2.toList == (ByteArray.mk #[]).toList)))] ?_
                refine zO (jQ hT h9) ?_
                refine zm hT 4 [1, 2, 5, 53] [(1, (aI v7)), (2, (.ptr 0 0)), (5, (.bool v8)), (53, (.bool (v3 == 0)))] ?_
                refine zO (jQ hT h10) ?_
                refine zm hT 2 [1, 2, 5, 54, 56] [(1, (aI v7)), (2, (.ptr 0 0)), (5, (.bool v8)), (54, (.bool true)), (56, (.str v4))] ?_
                refine zO (jP Go.Proofs.Try.func38 (F38_ok k6 v4 v10 h11)) ?_
                refine zm hT 1 [1, 2, 5, 58] [(1, (aI v7)), (2, (.ptr 0 0)), (5, (.bool v8)), (58, (.bool v10))] ?_
                refine zO (jQ hT h12) ?_
                refine ze hT 6 [1, 2, 5, 6] [(1, (aI v7)), (2, (.ptr 0 0)), (5, (.bool v8)), (6, (.bool false))] ?_
                refine zK [1, 2, 5, 6] [(1, (aI v7)), (2, (.ptr 0 0)), (5, (.bool v8)), (6, (.bool false))] ?_
                exact AE_done ⟨false, rfl, rfl, k6, by omega, h⟩
            · refine AW_reg ?_
              refine zm hT 3 [1, 2, 5, 43] [(1, (aI v7)), (2, (.ptr 0 0)), (5, (.bool v8)), (43, (.bool (v1 == 2)))] ?_
              refine zO (jQ hT h8) ?_
              refine zm hT 4 [1, 2, 5, 48] [(1, (aI v7)), (2, (.ptr 0 0)), (5, (.bool v8)), (48, (.bool (v2.toList == (ByteArray.mk #[]).toList)))] ?_
              refine zO (jQ hT h9) ?_
              refine zm hT 4 [1, 2, 5, 53] [(1, (aI v7)), (2, (.ptr 0 0)), (5, (.bool v8)), (53, (.bool (v3 == 0)))] ?_
              refine zO (jQ hT h10) ?_
              refine ze hT 11 [1, 2, 5, 6] [(1, (aI v7)), (2, (.ptr 0 0)), (5, (.bool v8)), (6, (.bool false))] ?_
              refine zK [1, 2, 5, 6] [(1, (aI v7)), (2, (.ptr 0 0)), (5, (.bool v8)), (6, (.bool false))] ?_
              exact AE_done ⟨false, rfl, rfl, k6, by omega, h⟩
          · refine AW_reg ?_
            refine zm hT 3 [1, 2, 5, 43] [(1, (aI v7)), (2, (.ptr 0 0)), (5, (.bool v8)), (43, (.bool (v1 == 2)))] ?_
            refine zO (jQ hT h8) ?_
            refine zm hT 4 [1, 2, 5, 48] [(1, (aI v7)), (2, (.ptr 0 0)), (5, (.bool v8)), (48, (.bool (v2.toList == (ByteArray.mk #[]).toList)))] ?_
            refine zO (jQ hT h9) ?_
            refine ze hT 16 [1, 2, 5, 6] [(1, (aI v7)), (2, (.ptr 0 0)), (5, (.bool v8)), (6, (.bool false))] ?_
            refine zK [1, 2, 5, 6] [(1, (aI v7)), (2, (.ptr 0 0)), (5, (.bool v8)), (6, (.bool false))] ?_
            exact AE_done ⟨false, rfl, rfl, k6, by omega, h⟩
        · refine AW_reg ?_
          refine zm hT 3 [1, 2, 5, 43] [(1, (aI v7)), (2, (.ptr 0 0)), (5, (.bool v8)), (43, (.bool (v1 == 2)))] ?_
          refine zO (jQ hT h8) ?_
          refine ze hT 21 [1, 2, 5, 6] [(1, (aI v7)), (2, (.ptr 0 0)), (5, (.bool v8)), (6, (.bool false))] ?_
          refine zK [1, 2, 5, 6] [(1, (aI v7)), (2, (.ptr 0 0)), (5, (.bool v8)), (6, (.bool false))] ?_
          exact AE_done ⟨false, rfl, rfl, k6, by omega, h⟩
      · rintro _ _ ⟨v9, rfl, rfl, n, hn, h⟩
        obtain _ | k13 := n
        · rw [F82_j1] at h; cases h
        have h14 : k13 < (k + 1) := by omega
        rw [F82_j1] at h
        refine AW_join (fun env L => ∃ (v11 : Bool), env = [(1, (aI v7)), (2, (.ptr 0 0)), (5, (.bool v8)), (6, (.bool v9)), (7, (.bool v11))] ∧ L = [.cells [(aI v1), (.str v2), (aI v3), (.str v4), (.sl (l57 v5)), (aI v6)]] ∧ ∃ n, n ≤ k13 ∧ F82_j2 n v7 v8 v9 v1 v2 v3 v4 v5 v11 = some (r1)) ?_ ?_
        · rcases bif_split h with ⟨h15, h⟩ | ⟨h15, h⟩
          · rcases bif_split h with ⟨h16, h⟩ | ⟨h16, h⟩
            · rcases bif_split h with ⟨h17, h⟩ | ⟨h17, h⟩
              · rcases bif_split h with ⟨h18, h⟩ | ⟨h18, h⟩
                · refine AW_reg ?_
                  refine zm hT 3 [1, 2, 5, 6, 67] [(1, (aI v7)), (2, (.ptr 0 0)), (5, (.bool v8)), (6, (.bool v9)), (67, (.bool (v1 == 3)))] ?_
                  refine zO (jQ hT h15) ?_
                  refine zm hT 3 [1, 2, 5, 6, 68, 71] [(1, (aI v7)), (2, (.ptr 0 0)), (5, (.bool v8)), (6, (.bool v9)), (68, (.bool true)), (71, (.bool (v2.toList == (ByteArray.mk #[45]).toList)))] ?_
                  refine zO (jQ hT h16) ?_
                  refine zm hT 15 [1, 2, 5, 6, 87] [(1, (aI v7)), (2, (.ptr 0 0)), (5, (.bool v8)), (6, (.bool v9)), (87, (.bool (v3 == 0)))] ?_
                  refine zO (jQ hT h17) ?_
                  refine zm hT 4 [1, 2, 5, 6, 92] [(1, (aI v7)), (2, (.ptr 0 0)), (5, (.bool v8)), (6, (.bool v9)), (92, (.bool (v4.toList == (ByteArray.mk #[]).toList)))] ?_
                  refine zO (jQ hT h18) ?_
                  refine ze hT 6 [1, 2, 5, 6, 7] [(1, (aI v7)), (2, (.ptr 0 0)), (5, (.bool v8)), (6, (.bool v9)), (7, (.bool (((l57 v5).length : Int) == 1)))] ?_
                  refine zK [1, 2, 5, 6, 7] [(1, (aI v7)), (2, (.ptr 0 0)), (5, (.bool v8)), (6, (.bool v9)), (7, (.bool (((l57 v5).length : Int) == 1)))] ?_
                  exact AE_done ⟨(((l57 v5).length : Int) == 1), rfl, rfl, k13, by omega, h⟩
                · refine AW_reg ?_
                  refine zm hT 3 [1, 2, 5, 6, 67] [(1, (aI v7)), (2, (.ptr 0 0)), (5, (.bool v8)), (6, (.bool v9)), (67, (.bool (v1 == 3)))] ?_
                  refine zO (jQ hT h15) ?_
                  refine zm hT 3 [1, 2, 5, 6, 68, 71] [(1, (aI v7)), (2, (.ptr 0 0)), (5, (.bool v8)), (6, (.bool v9)), (68, (.bool true)), (71, (.bool (v2.toList == (ByteArray.mk #[45]).toList)))] ?_
                  refine zO (jQ hT h16) ?_
                  refine zm hT 15 [1, 2, 5, 6, 87] [(1, (aI v7)), (2, (.ptr 0 0)), (5, (.bool v8)), (6, (.bool v9)), (87, (.bool (v3 == 0)))] ?_
                  refine zO (jQ hT h17) ?_
                  refine zm hT 4 [1, 2, 5, 6, 92] [(1, (aI v7)), (2, (.ptr 0 0)), (5, (.bool v8)), (6, (.bool v9)), (92, (.bool (v4.toList == (ByteArray.mk #[]).toList)))] ?_
                  refine zO (jQ hT h18) ?_
                  refine ze hT 6 [1, 2, 5, 6, 7] [(1, (aI v7)), (2, (.ptr 0 0)), (5, (.bool v8)), (6, (.bool v9)), (7, (.bool false))] ?_
                  refine zK [1, 2, 5, 6, 7] [(1, (aI v7)), (2, (.ptr 0 0)), (5, (.bool v8)), (6, (.bool v9)), (7, (.bool false))] ?_
                  exact AE_done ⟨false, rfl, rfl, k13, by omega, h⟩
              · refine AW_reg ?_
                refine zm hT 3 [1, 2, 5, 6, 67] [(1, (aI v7)), (2, (.ptr 0 0)), (5, (.bool v8)), (6, (.bool v9)), (67, (.bool (v1 == 3)))] ?_
                refine zO (jQ hT h15) ?_
                refine zm hT 3 [1, 2, 5, 6, 68, 71] [(1, (aI v7)), (2, (.ptr 0 0)), (5, (.bool v8)), (6, (.bool v9)), (68, (.bool true)), (71, (.bool (v2.toList == (ByteArray.mk #[45]).toList)))] ?_
                refine zO (jQ hT h16) ?_
                refine zm hT 15 [1, 2, 5, 6, 87] [(1, (aI v7)), (2, (.ptr 0 0)), (5, (.bool v8)), (6, (.bool v9)), (87, (.bool (v3 == 0)))] ?_
                refine zO (jQ hT h17) ?_
                refine ze hT 11 [1, 2, 5, 6, 7] [(1, (aI v7)), (2, (.ptr 0 0)), (5, (.bool v8)), (6, (.bool v9)), (7, (.bool false))] ?_
                refine zK [1, 2, 5, 6, 7] [(1, (aI v7)), (2, (.ptr 0 0)), (5, (.bool v8)), (6, (.bool v9)), (7, (.bool false))] ?_
                exact AE_done ⟨false, rfl, rfl, k13, by omega, h⟩
            · rcases bif_split h with ⟨h19, h⟩ | ⟨h19, h⟩
              · rcases bif_split h with ⟨h20, h⟩ | ⟨h20, h⟩
                · rcases bif_split h with ⟨h21, h⟩ | ⟨h21, h⟩
                  · refine AW_reg ?_
                    refine zm hT 3 [1, 2, 5, 6, 67] [(1, (aI v7)), (2, (.ptr 0 0)), (5, (.bool v8)), (6, (.bool v9)), (67, (.bool (v1 == 3)))] ?_
                    refine zO (jQ hT h15) ?_
                    refine zm hT 3 [1, 2, 5, 6, 68, 71] [(1, (aI v7)), (2, (.ptr 0 0)), (5, (.bool v8)), (6, (.bool v9)), (68, (.bool true)), (71, (.bool (v2.toList == (ByteArray.mk #[45]).toList)))] ?_
                    refine zO (jQ hT h16) ?_
                    refine zm hT 4 [1, 2, 5, 6, 68, 76] [(1, (aI v7)), (2, (.ptr 0 0)), (5, (.bool v8)), (6, (.bool v9)), (68, (.bool true)), (76, (.bool (v2.toList == (ByteArray.mk #[126]).toList)))] ?_
                    refine zO (jQ hT h19) ?_
                    refine zm hT 10 [1, 2, 5, 6, 87] [(1, (aI v7)), (2, (.ptr 0 0)), (5, (.bool v8)), (6, (.bool v9)), (87, (.bool (v3 == 0)))] ?_
                    refine zO (jQ hT h20) ?_
                    refine zm hT 4 [1, 2, 5, 6, 92] [(1, (aI v7)), (2, (.ptr 0 0)), (5, (.bool v8)), (6, (.bool v9)), (92, (.bool (v4.toList == (ByteArray.mk #[]).toList)))] ?_
                    refine zO (jQ hT h21) ?_
                    refine ze hT 6 [1, 2, 5, 6, 7] [(1, (aI v7)), (2, (.ptr 0 0)), (5, (.bool v8)), (6, (.bool v9)), (7, (.bool (((l57 v5).length : Int) == 1)))] ?_
                    refine zK [1, 2, 5, 6, 7] [(1, (aI v7)), (2, (.ptr 0 0)), (5, (.bool v8)), (6, (.bool v9)), (7, (.bool (((l57 v5).length : Int) == 1)))] ?_
                    exact AE_done ⟨(((l57 v5).length : Int) == 1), rfl, rfl, k13, by omega, h⟩
                  · refine AW_reg ?_
                    refine zm hT 3 [1, 2, 5, 6, 67] [(1, (aI v7)), (2, (.ptr 0 0)), (5, (.bool v8)), (6, (.bool v9)), (67, (.bool (v1 == 3)))] ?_
                    refine zO (jQ hT h15) ?_
                    refine zm hT 3 [1, 2, 5, 6, 68, 71] [(1, (aI v7)), (2, (.ptr 0 0)), (5, (.bool v8)), (6, (.bool v9)), (68, (.bool true)), (71, (.bool (v2.toList == (ByteArray.mk #[45]).toList)))] ?_
                    refine zO (jQ hT h16) ?_
                    refine zm hT 4 [1, 2, 5, 6, 68, 76] [(1, (aI v7)), (2, (.ptr 0 0)), (5, (.bool v8)), (6, (.bool v9)), (68, (.bool true)), (76, (.bool (v2.toList == (ByteArray.mk #[126]).toList)))] ?_
                    refine zO (jQ hT h19) ?_
                    refine zm hT 10 [1, 2, 5, 6, 87] [(1, (aI v7)), (2, (.ptr 0 0)), (5, (.bool v8)), (6, (.bool v9)), (87, (.bool (v3 == 0)))] ?_
                    refine zO (jQ hT h20) ?_
                    refine zm hT 4 [1, 2, 5, 6, 92] [(1, (aI v7)), (2, (.ptr 0 0)), (5, (.bool v8)), (6, (.bool v9)), (92, (.bool (v4.toList == (ByteArray.mk #[]).toList)))] ?_
                    refine zO (jQ hT h21) ?_
                    refine ze hT 6 [1, 2, 5, 6, 7] [(1, (aI v7)), (2, (.ptr 0 0)), (5, (.bool v8)), (6, (.bool v9)), (7, (.bool false))] ?_
                    refine zK [1, 2, 5, 6, 7] [(1, (aI v7)), (2, (.ptr 0 0)), (5, (.bool v8)), (6, (.bool v9)), (7, (.bool false))] ?_
                    exact AE_done ⟨false, rfl, rfl, k13, by omega, h⟩
                · refine AW_reg ?_
                  refine zm hT 3 [1, 2, 5, 6, 67] [(1, (aI v7)), (2, (.ptr 0 0)), (5, (.bool v8)), (6, (.bool v9)), (67, (.bool (v1 == 3)))] ?_
                  refine zO (jQ hT h15) ?_
                  refine zm hT 3 [1, 2, 5, 6, 68, 71] [(1, (aI v7)), (2, (.ptr 0 0)), (5, (.bool v8)), (6, (.bool v9)), (68, (.bool true)), (71, (.bool (v2.toList == (ByteArray.mk #[45]).toList)))] ?_
                  refine zO (jQ hT h16) ?_
                  refine zm hT 4 [1, 2, 5, 6, 68, 76] [(1, (aI v7)), (2, (.ptr 0 0)), (5, (.bool v8)), (6, (.bool v9)), (68, (.bool true)), (76, (.bool (v2.toList == (ByteArray.mk #[126]).toList)))] ?_
                  refine zO (jQ hT h19) ?_
                  refine zm hT 10 [1, 2, 5, 6, 87] [(1, (aI v7)), (2, (.ptr 0 0)), (5, (.bool v8)), (6, (.bool v9)), (87, (.bool (v3 == 0)))] ?_
                  refine zO (jQ hT h20) ?_
                  refine ze hT 11 [1, 2, 5, 6, 7] [(1, (aI v7)), (2, (.ptr 0 0)), (5, (.bool v8)), (6, (.bool v9)), (7, (.bool false))] ?_
                  refine zK [1, 2, 5, 6, 7] [(1, (aI v7)), (2, (.ptr 0 0)), (5, (.bool v8)), (6, (.bool v9)), (7, (.bool false))] ?_
                  exact AE_done ⟨false, rfl, rfl, k13, by omega, h⟩
              · rcases bif_split h with ⟨h22, h⟩ | ⟨h22, h⟩
                · rcases bif_split h with ⟨h23, h⟩ | ⟨h23, h⟩
                  · rcases bif_split h with ⟨h24, h⟩ | ⟨h24, h⟩
                    · refine AW_reg ?_
                      refine zm hT 3 [1, 2, 5, 6, 67] [(1, (aI v7)), (2, (.ptr 0 0)), (5, (.bool v8)), (6, (.bool v9)), (67, (.bool (v1 == 3)))] ?_
                      refine zO (jQ hT h15) ?_
                      refine zm hT 3 [1, 2, 5, 6, 68, 71] [(1, (aI v7)), (2, (.ptr 0 0)), (5, (.bool v8)), (6, (.bool v9)), (68, (.bool true)), (71, (.bool (v2.toList == (ByteArray.mk #[45]).toList)))] ?_
                      refine zO (jQ hT h16) ?_
                      refine zm hT 4 [1, 2, 5, 6, 68, 76] [(1, (aI v7)), (2, (.ptr 0 0)), (5, (.bool v8)), (6, (.bool v9)), (68, (.bool true)), (76, (.bool (v2.toList == (ByteArray.mk #[126]).toList)))] ?_
                      refine zO (jQ hT h19) ?_
                      refine zm hT 5 [1, 2, 5, 6, 82] [(1, (aI v7)), (2, (.ptr 0 0)), (5, (.bool v8)), (6, (.bool v9)), (82, (.bool (v2.toList == (ByteArray.mk #[33]).toList)))] ?_
                      refine zO (jQ hT h22) ?_
                      refine zm hT 4 [1, 2, 5, 6, 87] [(1, (aI v7)), (2, (.ptr 0 0)), (5, (.bool v8)), (6, (.bool v9)), (87, (.bool (v3 == 0)))] ?_
                      refine zO (jQ hT h23) ?_
                      refine zm hT 4 [1, 2, 5, 6, 92] [(1, (aI v7)), (2, (.ptr 0 0)), (5, (.bool v8)), (6, (.bool v9)), (92, (.bool (v4.toList == (ByteArray.mk #[]).toList)))] ?_
                      refine zO (jQ hT h24) ?_
                      refine ze hT 6 [1, 2, 5, 6, 7] [(1, (aI v7)), (2, (.ptr 0 0)), (5, (.bool v8)), (6, (.bool v9)), (7, (.bool (((l57 v5).length : Int) == 1)))] ?_
                      refine zK [1, 2, 5, 6, 7] [(1, (aI v7)), (2, (.ptr 0 0)), (5, (.bool v8)), (6, (.bool v9)), (7, (.bool (((l57 v5).length : Int) == 1)))] ?_
                      exact AE_done ⟨(((l57 v5).length : Int) == 1), rfl, rfl, k13, by omega, h⟩
                    · refine AW_reg ?_
                      refine zm hT 3 [1, 2, 5, 6, 67] [(1, (aI v7)), (2, (.ptr 0 0)), (5, (.bool v8)), (6, (.bool v9)), (67, (.bool (v1 == 3)))] ?_
                      refine zO (jQ hT h15) ?_
                      refine zm hT 3 [1, 2, 5, 6, 68, 71] [(1, (aI v7)), (2, (.ptr 0 0)), (5, (.bool v8)), (6, (.bool v9)), (68, (.bool true)), (71, (.bool (v2.toList == (ByteArray.mk #[45]).toList)))] ?_
                      refine zO (jQ hT h16) ?_
                      refine zm hT 4 [1, 2, 5, 6, 68, 76] [(1, (aI v7)), (2, (.ptr 0 0)), (5, (.bool v8)), (6, (.bool v9)), (68, (.bool true)), (76, (.bool (v2.toList == (ByteArray.mk #[126]).toList)))] ?_
                      refine zO (jQ hT h19) ?_
                      refine zm hT 5 [1, 2, 5, 6, 82] [(1, (aI v7)), (2, (.ptr 0 0)), (5, (.bool v8)), (6, (.bool v9)), (82, (.bool (v2.toList == (ByteArray.mk #[33]).toList)))] ?_
                      refine zO (jQ hT h22) ?_
                      refine zm hT 4 [1, 2, 5, 6, 87] [(1, (aI v7)), (2, (.ptr 0 0)), (5, (.bool v8)), (6, (.bool v9)), (87, (.bool (v3 == 0)))] ?_
                      refine zO (jQ hT h23) ?_
                      refine zm hT 4 [1, 2, 5, 6, 92] [(1, (aI v7)), (2, (.ptr 0 0)), (5, (.bool v8)), (6, (.bool v9)), (92, (.bool (v4.toList == (ByteArray.mk #[]).toList)))] ?_
                      refine zO (jQ hT h24) ?_
                      refine ze hT 6 [1, 2, 5, 6, 7] [(1, (aI v7)), (2, (.ptr 0 0)), (5, (.bool v8)), (6, (.bool v9)), (7, (.bool false))] ?_
                      refine zK [1, 2, 5, 6, 7] [(1, (aI v7)), (2, (.ptr 0 0)), (5, (.bool v8)), (6, (.bool v9)), (7, (.bool false))] ?_
                      exact AE_done ⟨false, rfl, rfl, k13, by omega, h⟩
                  · refine AW_reg ?_
                    refine zm hT 3 [1, 2, 5, 6, 67] [(1, (aI v7)), (2, (.ptr 0 0)), (5, (.bool v8)), (6, (.bool v9)), (67, (.bool (v1 == 3)))] ?_
                    refine zO (jQ hT h15) ?_
                    refine zm hT 3 [1, 2, 5, 6, 68, 71] [(1, (aI v7)), (2, (.ptr 0 0)), (5, (.bool v8)), (6, (.bool v9)), (68, (.bool true)), (71, (.bool (v2.toList == (ByteArray.mk #[45]).toList)))] ?_
                    refine zO (jQ hT h16) ?_
                    refine zm hT 4 [1, 2, 5, 6, 68, 76] [(1, (aI v7)), (2, (.ptr 0 0)), (5, (.bool v8)), (6, (.bool v9)), (68, (.bool true)), (76, (.bool (v2.toList == (ByteArray.mk #[126]).toList)))] ?_
                    refine zO (jQ hT h19) ?_
                    refine zm hT 5 [1, 2, 5, 6, 82] [(1, (aI v7)), (2, (.ptr 0 0)), (5, (.bool v8)), (6, (.bool v9)), (82, (.bool (v2.toList == (ByteArray.mk #[33]).toList)))] ?_
                    refine zO (jQ hT h22) ?_
                    refine zm hT 4 [1, 2, 5, 6, 87] [(1, (aI v7)), (2, (.ptr 0 0)), (5, (.bool v8)), (6, (.bool v9)), (87, (.bool (v3 == 0)))] ?_
                    refine zO (jQ hT h23) ?_
                    refine ze hT 11 [1, 2, 5, 6, 7] [(1, (aI v7)), (2, (.ptr 0 0)), (5, (.bool v8)), (6, (.bool v9)), (7, (.bool false))] ?_
                    refine zK [1, 2, 5, 6, 7] [(1, (aI v7)), (2, (.ptr 0 0)), (5, (.bool v8)), (6, (.bool v9)), (7, (.bool false))] ?_
                    exact AE_done ⟨false, rfl, rfl, k13, by omega, h⟩
                · refine AW_reg ?_
                  refine zm hT 3 [1, 2, 5, 6, 67] [(1, (aI v7)), (2, (.ptr 0 0)), (5, (.bool v8)), (6, (.bool v9)), (67, (.bool (v1 == 3)))] ?_
                  refine zO (jQ hT h15) ?_
                  refine zm hT 3 [1, 2, 5, 6, 68, 71] [(1, (aI v7)), (2, (.ptr 0 0)), (5, (.bool v8)), (6, (.bool v9)), (68, (.bool true)), (71, (.bool (v2.toList == (ByteArray.mk #[45]).toList)))] ?_
                  refine zO (jQ hT h16) ?_
                  refine zm hT 4 [1, 2, 5, 6, 68, 76] [(1, (aI v7)), (2, (.ptr 0 0)), (5, (.bool v8)), (6, (.bool v9)), (68, (.bool true)), (76, (.bool (v2.toList == (ByteArray.mk #[126]).toList)))] ?_
                  refine zO (jQ hT h19) ?_
                  refine zm hT 5 [1, 2, 5, 6, 82] [(1, (aI v7)), (2, (.ptr 0 0)), (5, (.bool v8)), (6, (.bool v9)), (82, (.bool (v2.toList == (ByteArray.mk #[33]).toList)))] ?_
                  refine zO (jQ hT h22) ?_
                  refine ze hT 16 [1, 2, 5, 6, 7] [(1, (aI v7)), (2, (.ptr 0 0)), (5, (.bool v8)), (6, (.bool v9)), (7, (.bool false))] ?_
                  refine zK [1, 2, 5, 6, 7] [(1, (aI v7)), (2, (.ptr 0 0)), (5, (.bool v8)), (6, (.bool v9)), (7, (.bool false))] ?_
                  exact AE_done ⟨false, rfl, rfl, k13, by omega, h⟩
          · refine AW_reg ?_
            refine zm hT 3 [1, 2, 5, 6, 67] [(1, (aI v7)), (2, (.ptr 0 0)), (5, (.bool v8)), (6, (.bool v9)), (67, (.bool (v1 == 3)))] ?_
            refine zO (jQ hT h15) ?_
            refine ze hT 31 [1, 2, 5, 6, 7] [(1, (aI v7)), (2, (.ptr 0 0)), (5, (.bool v8)), (6, (.bool v9)), (7, (.bool false))] ?_
            refine zK [1, 2, 5, 6, 7] [(1, (aI v7)), (2, (.ptr 0 0)), (5, (.bool v8)), (6, (.bool v9)), (7, (.bool false))] ?_
            exact AE_done ⟨false, rfl, rfl, k13, by omega, h⟩
        · rintro _ _ ⟨v11, rfl, rfl, n, hn, h⟩
          obtain _ | k25 := n
          · rw [F82_j2] at h; cases h
          have h26 : k25 < (k + 1) := by omega
          rw [F82_j2] at h
          refine AW_join (fun env L => ∃ (v12 : Bool), env = [(1, (aI v7)), (2, (.ptr 0 0)), (5, (.bool v8)), (6, (.bool v9)), (7, (.bool v11)), (8, (.bool v12))] ∧ L = [.cells [(aI v1), (.str v2), (aI v3), (.str v4), (.sl (l57 v5)), (aI v6)]] ∧ ∃ n, n ≤ k25 ∧ F82_j3 n v7 v8 v9 v11 v5 v12 = some (r1)) ?_ ?_
          · rcases bif_split h with ⟨h27, h⟩ | ⟨h27, h⟩
            · obtain ⟨v13, h28, h⟩ := bsm h
              try dsimp only at h
              rcases bif_split h with ⟨h29, h⟩ | ⟨h29, h⟩
              · rcases bif_split h with ⟨h30, h⟩ | ⟨h30, h⟩
                · rcases bif_split h with ⟨h31, h⟩ | ⟨h31, h⟩
                  · refine AW_reg ?_
                    refine zm hT 3 [1, 2, 5, 6, 7, 101] [(1, (aI v7)), (2, (.ptr 0 0)), (5, (.bool v8)), (6, (.bool v9)), (7, (.bool v11)), (101, (.bool (v1 == 4)))] ?_
                    refine zO (jQ hT h27) ?_
                    refine zm hT 2 [1, 2, 5, 6, 7, 102, 104] [(1, (aI v7)), (2, (.ptr 0 0)), (5, (.bool v8)), (6, (.bool v9)), (7, (.bool v11)), (102, (.bool true)), (104, (.str v2))] ?_
                    refine zO (jP Go.Proofs.Try.func122 (F122_ok k25 v2 v13 h28)) ?_
                    refine zm hT 2 [1, 2, 5, 6, 7, 107] [(1, (aI v7)), (2, (.ptr 0 0)), (5, (.bool v8)), (6, (.bool v9)), (7, (.bool v11)), (107, (.bool (decide (v13 > 0))))] ?_
                    refine zO (jQ hT h29) ?_
                    refine zm hT 4 [1, 2, 5, 6, 7, 112] [(1, (aI v7)), (2, (.ptr 0 0)), (5, (.bool v8)), (6, (.bool v9)), (7, (.bool v11)), (112, (.bool (v3 == 0)))] ?_
                    refine zO (jQ hT h30) ?_
                    refine zm hT 4 [1, 2, 5, 6, 7, 117] [(1, (aI v7)), (2, (.ptr 0 0)), (5, (.bool v8)), (6, (.bool v9)), (7, (.bool v11)), (117, (.bool (v4.toList == (ByteArray.mk #[]).toList)))] ?_
                    refine zO (jQ hT h31) ?_
                    refine ze hT 6 [1, 2, 5, 6, 7, 8] [(1, (aI v7)), (2, (.ptr 0 0)), (5, (.bool v8)), (6, (.bool v9)), (7, (.bool v11)), (8, (.bool (((l57 v5).length : Int) == 2)))] ?_
                    refine zK [1, 2, 5, 6, 7, 8] [(1, (aI v7)), (2, (.ptr 0 0)), (5, (.bool v8)), (6, (.bool v9)), (7, (.bool v11)), (8, (.bool (((l57 v5).length : Int) == 2)))] ?_
                    exact AE_done ⟨(((l57 v5).length : Int) == 2), rfl, rfl, k25, by omega, h⟩
                  · refine AW_reg ?_
                    refine zm hT 3 [1, 2, 5, 6, 7, 101] [(1, (aI v7)), (2, (.ptr 0 0)), (5, (.bool v8)), (6, (.bool v9)), (7, (.bool v11)), (101, (.bool (v1 == 4)))] ?_
                    refine zO (jQ hT h27) ?_
                    refine zm hT 2 [1, 2, 5, 6, 7, 102, 104] [(1, (aI v7)), (2, (.ptr 0 0)), (5, (.bool v8)), (6, (.bool v9)), (7, (.bool v11)), (102, (.bool true)), (104, (.str v2))] ?_
                    refine zO (jP Go.Proofs.Try.func122 (F122_ok k25 v2 v13 h28)) ?_
                    refine zm hT 2 [1, 2, 5, 6, 7, 107] [(1, (aI v7)), (2, (.ptr 0 0)), (5, (.bool v8)), (6, (.bool v9)), (7, (.bool v11)), (107, (.bool (decide (v13 > 0))))] ?_
                    refine zO (jQ hT h29) ?_
                    refine zm hT 4 [1, 2, 5, 6, 7, 112] [(1, (aI v7)), (2, (.ptr 0 0)), (5, (.bool v8)), (6, (.bool v9)), (7, (.bool v11)), (112, (.bool (v3 == 0)))] ?_
                    refine zO (jQ hT h30) ?_
                    refine zm hT 4 [1, 2, 5, 6, 7, 117] [(1, (aI v7)), (2, (.ptr 0 0)), (5, (.bool v8)), (6, (.bool v9)), (7, (.bool v11)), (117, (.bool (v4.toList == (ByteArray.mk #[]).toList)))] ?_
                    refine zO (jQ hT h31) ?_
                    refine ze hT 6 [1, 2, 5, 6, 7, 8] [(1, (aI v7)), (2, (.ptr 0 0)), (5, (.bool v8)), (6, (.bool v9)), (7, (.bool v11)), (8, (.bool false))] ?_
                    refine zK [1, 2, 5, 6, 7, 8] [(1, (aI v7)), (2, (.ptr 0 0)), (5, (.bool v8)), (6, (.bool v9)), (7, (.bool v11)), (8, (.bool false))] ?_
                    exact AE_done ⟨false, rfl, rfl, k25, by omega, h⟩
                · refine AW_reg ?_
                  refine zm hT 3 [1, 2, 5, 6, 7, 101] [(1, (aI v7)), (2, (.ptr 0 0)), (5, (.bool v8)), (6, (.bool v9)), (7, (.bool v11)), (101, (.bool (v1 == 4)))] ?_
                  refine zO (jQ hT h27) ?_
                  refine zm hT 2 [1, 2, 5, 6, 7, 102, 104] [(1, (aI v7)), (2, (.ptr 0 0)), (5, (.bool v8)), (6, (.bool v9)), (7, (.bool v11)), (102, (.bool true)), (104, (.str v2))] ?_
                  refine zO (jP Go.Proofs.Try.func122 (F122_ok k25 v2 v13 h28)) ?_
                  refine zm hT 2 [1, 2, 5, 6, 7, 107] [(1, (aI v7)), (2, (.ptr 0 0)), (5, (.bool v8)), (6, (.bool v9)), (7, (.bool v11)), (107, (.bool (decide (v13 > 0))))] ?_
                  refine zO (jQ hT h29) ?_
                  refine zm hT 4 [1, 2, 5, 6, 7, 112] [(1, (aI v7)), (2, (.ptr 0 0)), (5, (.bool v8)), (6, (.bool v9)), (7, (.bool v11)), (112, (.bool (v3 == 0)))] ?_
                  refine zO (jQ hT h30) ?_
                  refine ze hT 11 [1, 2, 5, 6, 7, 8] [(1, (aI v7)), (2, (.ptr 0 0)), (5, (.bool v8)), (6, (.bool v9)), (7, (.bool v11)), (8, (.bool false))] ?_
                  refine zK [1, 2, 5, 6, 7, 8] [(1, (aI v7)), (2, (.ptr 0 0)), (5, (.bool v8)), (6, (.bool v9)), (7, (.bool v11)), (8, (.bool false))] ?_
                  exact AE_done ⟨false, rfl, rfl, k25, by omega, h⟩
              · refine AW_reg ?_
                refine zm hT 3 [1, 2, 5, 6, 7, 101] [(1, (aI v7)), (2, (.ptr 0 0)), (5, (.bool v8)), (6, (.bool v9)), (7, (.bool v11)), (101, (.bool (v1 == 4)))] ?_
                refine zO (jQ hT h27) ?_
                refine zm hT 2 [1, 2, 5, 6, 7, 102, 104] [(1, (aI v7)), (2, (.ptr 0 0)), (5, (.bool v8)), (6, (.bool v9)), (7, (.bool v11)), (102, (.bool true)), (104, (.str v2))] ?_
                refine zO (jP Go.Proofs.Try.func122 (F122_ok k25 v2 v13 h28)) ?_
                refine zm hT 2 [1, 2, 5, 6, 7, 107] [(1, (aI v7)), (2, (.ptr 0 0)), (5, (.bool v8)), (6, (.bool v9)), (7, (.bool v11)), (107, (.bool (decide (v13 > 0))))] ?_
                refine zO (jQ hT h29) ?_
                refine ze hT 16 [1, 2, 5, 6, 7, 8] [(1, (aI v7)), (2, (.ptr 0 0)), (5, (.bool v8)), (6, (.bool v9)), (7, (.bool v11)), (8, (.bool false))] ?_
                refine zK [1, 2, 5, 6, 7, 8] [(1, (aI v7)), (2, (.ptr 0 0)), (5, (.bool v8)), (6, (.bool v9)), (7, (.bool v11)), (8, (.bool false))] ?_
                exact AE_done ⟨false, rfl, rfl, k25, by omega, h⟩
            · refine AW_reg ?_
              refine zm hT 3 [1, 2, 5, 6, 7, 101] [(1, (aI v7)), (2, (.ptr 0 0)), (5, (.bool v8)), (6, (.bool v9)), (7, (.bool v11)), (101, (.bool (v1 == 4)))] ?_
              refine zO (jQ hT h27) ?_
              refine ze hT 22 [1, 2, 5, 6, 7, 8] [(1, (aI v7)), (2, (.ptr 0 0)), (5, (.bool v8)), (6, (.bool v9)), (7, (.bool v11)), (8, (.bool false))] ?_
              refine zK [1, 2, 5, 6, 7, 8] [(1, (aI v7)), (2, (.ptr 0 0)), (5, (.bool v8)), (6, (.bool v9)), (7, (.bool v11)), (8, (.bool false))] ?_
              exact AE_done ⟨false, rfl, rfl, k25, by omega, h⟩
          · rintro _ _ ⟨v12, rfl, rfl, n, hn, h⟩
            obtain _ | k32 := n
            · rw [F82_j3] at h; cases h
            have h33 : k32 < (k + 1) := by omega
            rw [F82_j3] at h
            refine AW_seq ?_
            refine AW_join (fun env L => ∃ (v14 : Bool), env = [(1, (aI v7)), (2, (.ptr 0 0)), (141, (.bool v14))] ∧ L = [.cells [(aI v1), (.str v2), (aI v3), (.str v4), (.sl (l57 v5)), (aI v6)]] ∧ ∃ n, n ≤ k32 ∧ F82_j4 n v7 v5 v14 = some (r1)) ?_ ?_
            · rcases bif_split h with ⟨h34, h⟩ | ⟨h34, h⟩
              · refine AW_reg ?_
                refine zm hT 2 [1, 2, 5, 6, 7, 8, 125] [(1, (aI v7)), (2, (.ptr 0 0)), (5, (.bool v8)), (6, (.bool v9)), (7, (.bool v11)), (8, (.bool v12)), (125, (.bool (decide (v7 < 1))))] ?_
                refine zO (jQ hT h34) ?_
                refine ze hT 15 [1, 2, 141] [(1, (aI v7)), (2, (.ptr 0 0)), (141, (.bool true))] ?_
                refine zK [1, 2, 141] [(1, (aI v7)), (2, (.ptr 0 0)), (141, (.bool true))] ?_
                exact AE_done ⟨true, rfl, rfl, k32, by omega, h⟩
              · rcases bif_split h with ⟨h35, h⟩ | ⟨h35, h⟩
                · rcases bif_split h with ⟨h36, h⟩ | ⟨h36, h⟩
                  · rcases bif_split h with ⟨h37, h⟩ | ⟨h37, h⟩
                    · refine AW_reg ?_
                      refine zm hT 2 [1, 2, 5, 6, 7, 8, 125] [(1, (aI v7)), (2, (.ptr 0 0)), (5, (.bool v8)), (6, (.bool v9)), (7, (.bool v11)), (8, (.bool v12)), (125, (.bool (decide (v7 < 1))))] ?_
                      refine zO (jQ hT h34) ?_
                      refine zm hT 2 [1, 2, 6, 7, 8, 126, 128] [(1, (aI v7)), (2, (.ptr 0 0)), (6, (.bool v9)), (7, (.bool v11)), (8, (.bool v12)), (126, (.bool false)), (128, (.bool (!v8)))] ?_
                      refine zO (jQ hT h35) ?_
                      refine zm hT 3 [1, 2, 7, 8, 126, 132] [(1, (aI v7)), (2, (.ptr 0 0)), (7, (.bool v11)), (8, (.bool v12)), (126, (.bool false)), (132, (.bool (!v9)))] ?_
                      refine zO (jQ hT h36) ?_
                      refine zm hT 3 [1, 2, 8, 126, 136] [(1, (aI v7)), (2, (.ptr 0 0)), (8, (.bool v12)), (126, (.bool false)), (136, (.bool (!v11)))] ?_
                      refine zO (jQ hT h37) ?_
                      refine ze hT 4 [1, 2, 141] [(1, (aI v7)), (2, (.ptr 0 0)), (141, (.bool (!v12)))] ?_
                      refine zK [1, 2, 141] [(1, (aI v7)), (2, (.ptr 0 0)), (141, (.bool (!v12)))] ?_
                      exact AE_done ⟨(!v12), rfl, rfl, k32, by omega, h⟩
                    · refine AW_reg ?_
                      refine zm hT 2 [1, 2, 5, 6, 7, 8, 125] [(1, (aI v7)), (2, (.ptr 0 0)), (5, (.bool v8)), (6, (.bool v9)), (7, (.bool v11)), (8, (.bool v12)), (125, (.bool (decide (v7 < 1))))] ?_
                      refine zO (jQ hT h34) ?_
                      refine zm hT 2 [1, 2, 6, 7, 8, 126, 128] [(1, (aI v7)), (2, (.ptr 0 0)), (6, (.bool v9)), (7, (.bool v11)), (8, (.bool v12)), (126, (.bool false)), (128, (.bool (!v8)))] ?_
                      refine zO (jQ hT h35) ?_
                      refine zm hT 3 [1, 2, 7, 8, 126, 132] [(1, (aI v7)), (2, (.ptr 0 0)), (7, (.bool v11)), (8, (.bool v12)), (126, (.bool false)), (132, (.bool (!v9)))] ?_
                      refine zO (jQ hT h36) ?_
                      refine zm hT 3 [1, 2, 8, 126, 136] [(1, (aI v7)), (2, (.ptr 0 0)), (8, (.bool v12)), (126, (.bool false)), (136, (.bool (!v11)))] ?_
                      refine zO (jQ hT h37) ?_
                      refine ze hT 4 [1, 2, 141] [(1, (aI v7)), (2, (.ptr 0 0)), (141, (.bool false))] ?_
                      refine zK [1, 2, 141] [(1, (aI v7)), (2, (.ptr 0 0)), (141, (.bool false))] ?_
                      exact AE_done ⟨false, rfl, rfl, k32, by omega, h⟩
                  · refine AW_reg ?_
                    refine zm hT 2 [1, 2, 5, 6, 7, 8, 125] [(1, (aI v7)), (2, (.ptr 0 0)), (5, (.bool v8)), (6, (.bool v9)), (7, (.bool v11)), (8, (.bool v12)), (125, (.bool (decide (v7 < 1))))] ?_
                    refine zO (jQ hT h34) ?_
                    refine zm hT 2 [1, 2, 6, 7, 8, 126, 128] [(1, (aI v7)), (2, (.ptr 0 0)), (6, (.bool v9)), (7, (.bool v11)), (8, (.bool v12)), (126, (.bool false)), (128, (.bool (!v8)))] ?_
                    refine zO (jQ hT h35) ?_
                    refine zm hT 3 [1, 2, 7, 8, 126, 132] [(1, (aI v7)), (2, (.ptr 0 0)), (7, (.bool v11)), (8, (.bool v12)), (126, (.bool false)), (132, (.bool (!v9)))] ?_
                    refine zO (jQ hT h36) ?_
                    refine ze hT 8 [1, 2, 141] [(1, (aI v7)), (2, (.ptr 0 0)), (141, (.bool false))] ?_
                    refine zK [1, 2, 141] [(1, (aI v7)), (2, (.ptr 0 0)), (141, (.bool false))] ?_
                    exact AE_done ⟨false, rfl, rfl, k32, by omega, h⟩
                · refine AW_reg ?_
                  refine zm hT 2 [1, 2, 5, 6, 7, 8, 125] [(1, (aI v7)), (2, (.ptr 0 0)), (5, (.bool v8)), (6, (.bool v9)), (7, (.bool v11)), (8, (.bool v12)), (125, (.bool (decide (v7 < 1))))] ?_
                  refine zO (jQ hT h34) ?_
                  refine zm hT 2 [1, 2, 6, 7, 8, 126, 128] [(1, (aI v7)), (2, (.ptr 0 0)), (6, (.bool v9)), (7, (.bool v11)), (8, (.bool v12)), (126, (.bool false)), (128, (.bool (!v8)))] ?_
                  refine zO (jQ hT h35) ?_
                  refine ze hT 12 [1, 2, 141] [(1, (aI v7)), (2, (.ptr 0 0)), (141, (.bool false))] ?_
                  refine zK [1, 2, 141] [(1, (aI v7)), (2, (.ptr 0 0)), (141, (.bool false))] ?_
                  exact AE_done ⟨false, rfl, rfl, k32, by omega, h⟩
            · rintro _ _ ⟨v14, rfl, rfl, n, hn, h⟩
              obtain _ | k38 := n
              · rw [F82_j4] at h; cases h
              have h39 : k38 < (k + 1) := by omega
              rw [F82_j4] at h
              rcases bif_split h with ⟨h40, h⟩ | ⟨h40, h⟩
              · refine zT h40 ?_
                refine zs hT [4] [(4, (aI (-1)))] ?_
                refine AE_ret ?_
                refine AE_seqR ?_
                refine zK [4] [(4, (aI (-1)))] ?_
                simp only [Option.some.injEq] at h
                subst h
                exact zEnd
              · refine zN h40 ?_
                refine AE_skip ?_
                refine AE_seqN ?_
                refine zs hT [1, 2, 9] [(1, (aI v7)), (2, (.ptr 0 0)), (9, (aI 1))] ?_
                refine AW_seq ?_
                refine zs hT [1, 2, 9, 10] [(1, (aI v7)), (2, (.ptr 0 0)), (9, (aI 1)), (10, (aI 0))] ?_
                refine AW_block ?_
                refine zKw [1, 2, 9, 10] [(1, (aI v7)), (2, (.ptr 0 0)), (9, (aI 1)), (10, (aI 0))] ?_
                refine AW_loop (fun n env L => n ≤ k38 ∧ ∃ (v15 : Int) (v16 : Int), env = [(1, (aI v7)), (2, (.ptr 0 0)), (9, (aI v15)), (10, (aI v16))] ∧ L = [.cells [(aI v1), (.str v2), (aI v3), (.str v4), (.sl (l57 v5)), (aI v6)]] ∧ F82_l5 n v7 v5 v15 v16 = some (r1)) k38 ⟨Nat.le_refl _, 1, 0, rfl, rfl, h⟩ ?_
                rintro n _ _ ⟨hn, v15, v16, rfl, rfl, h⟩
                cases n with
                | zero => rw [F82_l5] at h; cases h
                | succ k41 =>
                  have h42 : k41 < (k + 1) := by omega
                  rw [F82_l5] at h
                  refine AW_seq ?_
                  refine zs hT [1, 2, 9, 10, 146] [(1, (aI v7)), (2, (.ptr 0 0)), (9, (aI v15)), (10, (aI v16)), (146, (.bool (decide (v16 < ((l57 v5).length : Int)))))] ?_
                  rcases bif_split h with ⟨h43, h⟩ | ⟨h43, h⟩
                  · refine zT h43 ?_
                    refine AE_skip ?_
                    refine AE_seqN ?_
                    refine AW_seq ?_
                    refine AW_block ?_
                    refine AW_seq ?_
                    obtain ⟨⟨v17, v18, v19, v20, v21, v22⟩, h44, h⟩ := bsm h
                    try dsimp only at h
                    obtain ⟨v23, h45, h⟩ := bsm h
                    try dsimp only at h
                    refine AW_reg ?_
                    refine zm hT 3 [1, 2, 9, 10, 150, 151] [(1, (aI v7)), (2, (.ptr 0 0)), (9, (aI v15)), (10, (aI v16)), (150, (.sl (l57 v5))), (151, (aI v16))] ?_
                    refine zO (jX hT 6 (i57 h44)) ?_
                    refine zm hT 3 [1, 2, 9, 10, 153, 155] [(1, (aI v7)), (2, (.ptr 0 0)), (9, (aI v15)), (10, (aI v16)), (153, (.agg [(aI v17), (.str v18), (aI v19), (.str v20), (.sl (l57 v21)), (aI v22)])), (155, (aI (IntKind.wrap .i64 (v7 - 1))))] ?_
                    refine zO (jP Go.Proofs.Try.func82 (ih_F82 k41 h42 v17 v18 v19 v20 v21 v22 (IntKind.wrap .i64 (v7 - 1)) v23 h45)) ?_
                    refine ze hT 1 [1, 2, 9, 10, 11] [(1, (aI v7)), (2, (.ptr 0 0)), (9, (aI v15)), (10, (aI v16)), (11, (aI v23))] ?_
                    refine AE_seqN ?_
                    refine AW_seq ?_
                    refine AW_join (fun env L => ∃ (v24 : Int) (v25 : Int) (v26 : Int) (v27 : Bool), env = [(1, (aI v7)), (2, (.ptr 0 0)), (9, (aI v24)), (10, (aI v25)), (11, (aI v26)), (162, (.bool v27))] ∧ L = [.cells [(aI v1), (.str v2), (aI v3), (.str v4), (.sl (l57 v5)), (aI v6)]] ∧ ∃ n, n ≤ k41 ∧ F82_j6 n v7 v5 v24 v25 v26 v27 = some (r1)) ?_ ?_
                    · rcases bif_split h with ⟨h46, h⟩ | ⟨h46, h⟩
                      · refine AW_reg ?_
                        refine zm hT 2 [1, 2, 9, 10, 11, 158] [(1, (aI v7)), (2, (.ptr 0 0)), (9, (aI v15)), (10, (aI v16)), (11, (aI v23)), (158, (.bool (decide (v23 < 0))))] ?_
                        refine zO (jQ hT h46) ?_
                        refine ze hT 3 [1, 2, 9, 10, 11, 162] [(1, (aI v7)), (2, (.ptr 0 0)), (9, (aI v15)), (10, (aI v16)), (11, (aI v23)), (162, (.bool true))] ?_
                        refine zK [1, 2, 9, 10, 11, 162] [(1, (aI v7)), (2, (.ptr 0 0)), (9, (aI v15)), (10, (aI v16)), (11, (aI v23)), (162, (.bool true))] ?_
                        exact AE_done ⟨v15, v16, v23, true, rfl, rfl, k41, by omega, h⟩
                      · refine AW_reg ?_
                        refine zm hT 2 [1, 2, 9, 10, 11, 158] [(1, (aI v7)), (2, (.ptr 0 0)), (9, (aI v15)), (10, (aI v16)), (11, (aI v23)), (158, (.bool (decide (v23 < 0))))] ?_
                        refine zO (jQ hT h46) ?_
                        refine ze hT 3 [1, 2, 9, 10, 11, 162] [(1, (aI v7)), (2, (.ptr 0 0)), (9, (aI v15)), (10, (aI v16)), (11, (aI v23)), (162, (.bool (decide (v23 > 10000))))] ?_
                        refine zK [1, 2, 9, 10, 11, 162] [(1, (aI v7)), (2, (.ptr 0 0)), (9, (aI v15)), (10, (aI v16)), (11, (aI v23)), (162, (.bool (decide (v23 > 10000))))] ?_
                        exact AE_done ⟨v15, v16, v23, (decide (v23 > 10000)), rfl, rfl, k41, by omega, h⟩
                    · rintro _ _ ⟨v24, v25, v26, v27, rfl, rfl, n, hn, h⟩
                      obtain _ | k47 := n
                      · rw [F82_j6] at h; cases h
                      have h48 : k47 < (k + 1) := by omega
                      rw [F82_j6] at h
                      rcases bif_split h with ⟨h49, h⟩ | ⟨h49, h⟩
                      · refine zT h49 ?_
                        refine zs hT [4] [(4, (aI (-1)))] ?_
                        refine AE_ret ?_
                        refine AE_seqR ?_
                        refine AE_blkR ?_
                        refine AE_seqR ?_
                        refine AE_seqR ?_
                        refine AE_blkR ?_
                        refine AE_seqR ?_
                        refine zK [4] [(4, (aI (-1)))] ?_
                        simp only [Option.some.injEq] at h
                        subst h
                        exact zEnd
                      · refine zN h49 ?_
                        refine AE_skip ?_
                        refine AE_seqN ?_
                        refine zr hT [1, 2, 9, 10] [(1, (aI v7)), (2, (.ptr 0 0)), (9, (aI (IntKind.wrap .i64 (v24 + v26)))), (10, (aI v25))] ?_
                        refine AE_blkN ?_
                        refine AE_seqN ?_
                        refine zr hT [1, 2, 9, 10] [(1, (aI v7)), (2, (.ptr 0 0)), (9, (aI (IntKind.wrap .i64 (v24 + v26)))), (10, (aI (IntKind.wrap .i64 (v25 + 1))))] ?_
                        refine zK [1, 2, 9, 10] [(1, (aI v7)), (2, (.ptr 0 0)), (9, (aI (IntKind.wrap .i64 (v24 + v26)))), (10, (aI (IntKind.wrap .i64 (v25 + 1))))] ?_
                        exact AE_done ⟨k47, by omega, by omega, (IntKind.wrap .i64 (v24 + v26)), (IntKind.wrap .i64 (v25 + 1)), rfl, rfl, h⟩
                  · refine zN h43 ?_
                    refine AE_exit ?_
                    refine AE_seqX ?_
                    refine AE_seqX ?_
                    refine AE_blkH ?_
                    refine AE_seqN ?_
                    refine zs hT [4] [(4, (aI v15))] ?_
                    refine AE_ret ?_
                    refine zK [4] [(4, (aI v15))] ?_
                    simp only [Option.some.injEq] at h
                    subst h
                    exact zEnd

theorem F82_all (K0 : Nat) : (∀ (v1 : Int) (v2 : ByteArray) (v3 : Int) (v4 : ByteArray) (v5 : (List T57)) (v6 : Int) (v7 : Int) (r1 : Int), F82 K0 v1 v2 v3 v4 v5 v6 v7 = some (r1) → Fn prog 82 [(.agg [(aI v1), (.str v2), (aI v3), (.str v4), (.sl (l57 v5)), (aI v6)]), (aI v7)] [] (aI r1) []) := by
  induction K0 using Nat.strongRecOn with
  | ind K0 ih => exact F82_step K0 (fun k hk => (ih k hk))

theorem F82_ok (K0 : Nat) : ∀ (v1 : Int) (v2 : ByteArray) (v3 : Int) (v4 : ByteArray) (v5 : (List T57)) (v6 : Int) (v7 : Int) (r1 : Int), F82 K0 v1 v2 v3 v4 v5 v6 v7 = some (r1) → Fn prog 82 [(.agg [(aI v1), (.str v2), (aI v3), (.str v4), (.sl (l57 v5)), (aI v6)]), (aI v7)] [] (aI r1) [] := (F82_all K0)
end Go.Vm
