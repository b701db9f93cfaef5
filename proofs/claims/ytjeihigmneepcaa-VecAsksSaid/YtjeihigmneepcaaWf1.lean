/- Printed by gen.py: functions of the program as Lean functions, and that they do what these say. -/
import Derived.Test.YtjeihigmneepcaaWf0
set_option linter.unusedVariables false
set_option linter.unusedSimpArgs false
set_option linter.unusedSectionVars false
set_option maxRecDepth 20000
namespace Go.Vm
def F14 (k : Nat) (v1 : (List Int)) (v2 : (List T75)) (v3 : (List (T75 × Int))) : Option (Int × (List T75) × (List (T75 × Int))) :=
  ((F23 k v1 v2 v3).bind fun v4 =>
    (bif (v4 != 0) then
      some ((-1), v2, v3)
    else
      ((F52 k v1 v2 v3).bind fun v5 =>
        ((F51 k v5 v2 v3).bind fun ⟨v6, v7, v8⟩ =>
          (bif (v6 == (-1)) then
            some ((-1), v7, v8)
          else
            some ((bits .xor .i64 v6 1), v7, v8))))))

theorem F14_ok (k : Nat) : ∀ (v1 : (List Int)) (v2 : (List T75)) (v3 : (List (T75 × Int))) (r1 : Int) (r2 : (List T75)) (r3 : (List (T75 × Int))), F14 k v1 v2 v3 = some (r1, r2, r3) → Fn prog 14 [(.ptr 0 0), (.sl (l2 v1))] [.cells [(.gr 1 (l75 v2).length), (.map 2)], .row false 76 2 (l75 v2), .map (mE e75 e2 v3)] (aI r1) [.cells [(.gr 1 (l75 r2).length), (.map 2)], .row false 76 2 (l75 r2), .map (mE e75 e2 r3)] := by
  intro v1 v2 v3 r1 r2 r3 h
  rw [F14] at h
  refine Fn_bodyK hT Go.Proofs.Try.func14 (c := Go.Proofs.Try.f14.body.getD .skip) (by kernel_rfl) (by kernel_rfl) (by kernel_rfl) ?_
  refine zs hT [0, 1] [(0, (.ptr 0 0)), (1, (.sl (l2 v1)))] ?_
  refine AW_seq ?_
  refine AW_seq ?_
  obtain ⟨v4, h1, h⟩ := bsm h
  try dsimp only at h
  refine AW_reg ?_
  refine zm hT 2 [0, 1, 6, 7] [(0, (.ptr 0 0)), (1, (.sl (l2 v1))), (6, (.ptr 0 0)), (7, (.sl (l2 v1)))] ?_
  refine zO (jC Go.Proofs.Try.func23 (Fn_in (L := [.cells [(.gr 1 (l75 v2).length), (.map 2)], .row false 76 2 (l75 v2), .map (mE e75 e2 v3)]) (args' := [(.ptr 0 0), (.sl (l2 v1))]) (res' := (aI v4)) (L'' := [.cells [(.gr 1 (l75 v2).length), (.map 2)], .row false 76 2 (l75 v2), .map (mE e75 e2 v3)]) [0, 1, 2] (F23_ok k v1 v2 v3 v4 h1) rfl (by decide) ⟨(by simp [AV.ren, AV.rens, AObj.ren, gname]), (by simp [AV.ren, AV.rens, AObj.ren, gname]), (by simp [AV.ren, AV.rens, AObj.ren, gname]), trivial⟩ (by simp [AV.low, AV.lows, AObj.low]) (by simp [AV.low, AV.lows, AObj.low]) (by kernel_rfl) (by simp [AV.ren, AV.rens, AObj.ren, gname, putBack]) (by simp [AV.ren, AV.rens, AObj.ren, gname, putBack]) (by simp [AV.ren, AV.rens, AObj.ren, gname, putBack]))) ?_
  refine ze hT 1 [0, 1, 9] [(0, (.ptr 0 0)), (1, (.sl (l2 v1))), (9, (.bool (v4 != 0)))] ?_
  refine AE_seqN ?_
  rcases bif_split h with ⟨h2, h⟩ | ⟨h2, h⟩
  · refine zT h2 ?_
    refine zs hT [4] [(4, (aI (-1)))] ?_
    refine AE_ret ?_
    refine AE_seqR ?_
    refine zK [4] [(4, (aI (-1)))] ?_
    simp only [Option.some.injEq, Prod.mk.injEq] at h
    obtain ⟨rfl, rfl, rfl⟩ := h
    exact zEnd
  · refine zN h2 ?_
    refine AE_skip ?_
    refine AE_seqN ?_
    refine AW_seq ?_
    obtain ⟨v5, h3, h⟩ := bsm h
    try dsimp only at h
    obtain ⟨⟨v6, v7, v8⟩, h4, h⟩ := bsm h
    try dsimp only at h
    refine AW_reg ?_
    refine zm hT 3 [10, 11, 12] [(10, (.ptr 0 0)), (11, (.ptr 0 0)), (12, (.sl (l2 v1)))] ?_
    refine zO (jC Go.Proofs.Try.func52 (Fn_in (L := [.cells [(.gr 1 (l75 v2).length), (.map 2)], .row false 76 2 (l75 v2), .map (mE e75 e2 v3)]) (args' := [(.ptr 0 0), (.sl (l2 v1))]) (res' := (.sl (l2 v5))) (L'' := [.cells [(.gr 1 (l75 v2).length), (.map 2)], .row false 76 2 (l75 v2), .map (mE e75 e2 v3)]) [0, 1, 2] (F52_ok k v1 v2 v3 v5 h3) rfl (by decide) ⟨(by simp [AV.ren, AV.rens, AObj.ren, gname]), (by simp [AV.ren, AV.rens, AObj.ren, gname]), (by simp [AV.ren, AV.rens, AObj.ren, gname]), trivial⟩ (by simp [AV.low, AV.lows, AObj.low]) (by simp [AV.low, AV.lows, AObj.low]) (by kernel_rfl) (by simp [AV.ren, AV.rens, AObj.ren, gname, putBack]) (by simp [AV.ren, AV.rens, AObj.ren, gname, putBack]) (by simp [AV.ren, AV.rens, AObj.ren, gname, putBack]))) ?_
    refine zO (jC Go.Proofs.Try.func51 (Fn_in (L := [.cells [(.gr 1 (l75 v2).length), (.map 2)], .row false 76 2 (l75 v2), .map (mE e75 e2 v3)]) (args' := [(.ptr 0 0), (.sl (l2 v5))]) (res' := (aI v6)) (L'' := [.cells [(.gr 1 (l75 v7).length), (.map 2)], .row false 76 2 (l75 v7), .map (mE e75 e2 v8)]) [0, 1, 2] (F51_ok k v5 v2 v3 v6 v7 v8 h4) rfl (by decide) ⟨(by simp [AV.ren, AV.rens, AObj.ren, gname]), (by simp [AV.ren, AV.rens, AObj.ren, gname]), (by simp [AV.ren, AV.rens, AObj.ren, gname]), trivial⟩ (by simp [AV.low, AV.lows, AObj.low]) (by simp [AV.low, AV.lows, AObj.low]) (by kernel_rfl) (by simp [AV.ren, AV.rens, AObj.ren, gname, putBack]) (by simp [AV.ren, AV.rens, AObj.ren, gname, putBack]) (by simp [AV.ren, AV.rens, AObj.ren, gname, putBack]))) ?_
    refine ze hT 1 [5] [(5, (aI v6))] ?_
    refine AE_seqN ?_
    refine AW_seq ?_
    refine zs hT [5, 16] [(5, (aI v6)), (16, (.bool (v6 == (-1))))] ?_
    rcases bif_split h with ⟨h5, h⟩ | ⟨h5, h⟩
    · refine zT h5 ?_
      refine zs hT [4] [(4, (aI (-1)))] ?_
      refine AE_ret ?_
      refine AE_seqR ?_
      refine zK [4] [(4, (aI (-1)))] ?_
      simp only [Option.some.injEq, Prod.mk.injEq] at h
      obtain ⟨rfl, rfl, rfl⟩ := h
      exact zEnd
    · refine zN h5 ?_
      refine AE_skip ?_
      refine AE_seqN ?_
      refine zs hT [4] [(4, (aI (bits .xor .i64 v6 1)))] ?_
      refine AE_ret ?_
      refine zK [4] [(4, (aI (bits .xor .i64 v6 1)))] ?_
      simp only [Option.some.injEq, Prod.mk.injEq] at h
      obtain ⟨rfl, rfl, rfl⟩ := h
      exact zEnd

def F17_j0 (k2 : Nat) (v1 : (List Bool)) (v2 : Int) (v3 : Bool) : Option (Bool) :=
  (bif v3 then
    some (false)
  else
    (bif (decide (v2 < 2)) then
      some ((v2 == 1))
    else
      ((idx v1 (IntKind.wrap .i64 ((IntKind.wrap .i64 (Int.tdiv v2 2)) - 1))).bind fun v4 =>
        some ((!(v4 == ((Int.tmod v2 2) == 1)))))))

def F17 (k : Nat) (v1 : (List Bool)) (v2 : Int) : Option (Bool) :=
  (bif (decide (v2 < 0)) then
    F17_j0 k v1 v2 true
  else
    F17_j0 k v1 v2 (decide ((IntKind.wrap .i64 (Int.tdiv v2 2)) > ((l4 v1).length : Int))))

theorem F17_ok (k : Nat) : ∀ (v1 : (List Bool)) (v2 : Int) (r1 : Bool), F17 k v1 v2 = some (r1) → Fn prog 17 [(.sl (l4 v1)), (aI v2)] [] (.bool r1) [] := by
  intro v1 v2 r1 h
  rw [F17] at h
  refine Fn_bodyK hT Go.Proofs.Try.func17 (c := Go.Proofs.Try.f17.body.getD .skip) (by kernel_rfl) (by kernel_rfl) (by kernel_rfl) ?_
  refine zs hT [0, 1] [(0, (.sl (l4 v1))), (1, (aI v2))] ?_
  refine AW_seq ?_
  refine AW_block ?_
  refine AW_join (fun env L => ∃ (v3 : Bool), env = [(0, (.sl (l4 v1))), (1, (aI v2)), (5, (.bool v3))] ∧ L = [] ∧ ∃ n, n ≤ k ∧ F17_j0 n v1 v2 v3 = some (r1)) ?_ ?_
  · rcases bif_split h with ⟨h1, h⟩ | ⟨h1, h⟩
    · refine AW_reg ?_
      refine zm hT 2 [0, 1, 7] [(0, (.sl (l4 v1))), (1, (aI v2)), (7, (.bool (decide (v2 < 0))))] ?_
      refine zO (jQ hT h1) ?_
      refine ze hT 7 [0, 1, 5] [(0, (.sl (l4 v1))), (1, (aI v2)), (5, (.bool true))] ?_
      refine zK [0, 1, 5] [(0, (.sl (l4 v1))), (1, (aI v2)), (5, (.bool true))] ?_
      exact AE_done ⟨true, rfl, rfl, k, by omega, h⟩
    · refine AW_reg ?_
      refine zm hT 2 [0, 1, 7] [(0, (.sl (l4 v1))), (1, (aI v2)), (7, (.bool (decide (v2 < 0))))] ?_
      refine zO (jQ hT h1) ?_
      refine ze hT 7 [0, 1, 5] [(0, (.sl (l4 v1))), (1, (aI v2)), (5, (.bool (decide ((IntKind.wrap .i64 (Int.tdiv v2 2)) > ((l4 v1).length : Int)))))] ?_
      refine zK [0, 1, 5] [(0, (.sl (l4 v1))), (1, (aI v2)), (5, (.bool (decide ((IntKind.wrap .i64 (Int.tdiv v2 2)) > ((l4 v1).length : Int)))))] ?_
      exact AE_done ⟨(decide ((IntKind.wrap .i64 (Int.tdiv v2 2)) > ((l4 v1).length : Int))), rfl, rfl, k, by omega, h⟩
  · rintro _ _ ⟨v3, rfl, rfl, n, hn, h⟩
    obtain ⟨k2, rfl⟩ : ∃ q, q = n := ⟨n, rfl⟩
    rw [F17_j0] at h
    rcases bif_split h with ⟨h4, h⟩ | ⟨h4, h⟩
    · refine zT h4 ?_
      refine zs hT [4] [(4, (.bool false))] ?_
      refine AE_ret ?_
      refine AE_blkR ?_
      refine AE_seqR ?_
      refine zK [4] [(4, (.bool false))] ?_
      simp only [Option.some.injEq] at h
      subst h
      exact zEnd
    · refine zN h4 ?_
      refine zs hT [0, 1, 15] [(0, (.sl (l4 v1))), (1, (aI v2)), (15, (.bool (decide (v2 < 2))))] ?_
      rcases bif_split h with ⟨h5, h⟩ | ⟨h5, h⟩
      · refine zT h5 ?_
        refine zs hT [4] [(4, (.bool (v2 == 1)))] ?_
        refine AE_ret ?_
        refine AE_blkR ?_
        refine AE_seqR ?_
        refine zK [4] [(4, (.bool (v2 == 1)))] ?_
        simp only [Option.some.injEq] at h
        subst h
        exact zEnd
      · refine zN h5 ?_
        refine AE_skip ?_
        refine AE_blkN ?_
        refine AE_seqN ?_
        refine AW_seq ?_
        obtain ⟨v4, h6, h⟩ := bsm h
        try dsimp only at h
        refine AW_reg ?_
        refine zm hT 4 [1, 20, 23] [(1, (aI v2)), (20, (.sl (l4 v1))), (23, (aI (IntKind.wrap .i64 ((IntKind.wrap .i64 (Int.tdiv v2 2)) - 1))))] ?_
        refine zO (jX hT 1 (i4 h6)) ?_
        refine ze hT 6 [4] [(4, (.bool (!(v4 == ((Int.tmod v2 2) == 1)))))] ?_
        refine AE_seqN ?_
        refine AE_ret ?_
        refine zK [4] [(4, (.bool (!(v4 == ((Int.tmod v2 2) == 1)))))] ?_
        simp only [Option.some.injEq] at h
        subst h
        exact zEnd

mutual
def F55_j1 : Nat → (List T75) → Int → Bool → Option (Int)
  | 0, _, _, _ => none
  | k11 + 1, v1, v5, v6 =>
    (bif v6 then
      some (1)
    else
      F55_l0 k11 v1 (IntKind.wrap .i64 (v5 + 1)))
def F55_l0 : Nat → (List T75) → Int → Option (Int)
  | 0, _, _ => none
  | k2 + 1, v1, v2 =>
    (bif (decide (v2 < ((l75 v1).length : Int))) then
      ((idx v1 v2).bind fun ⟨v3, v4⟩ =>
        ((F45 k2 ).bind fun ⟨v9, v10⟩ =>
          (bif (!((v3 == v9) && ((v4 == v10) && true))) then
            (bif (decide (v3 < 0)) then
              F55_j1 k2 v1 v2 true
            else
              (bif (decide (v4 < 0)) then
                F55_j1 k2 v1 v2 true
              else
                (bif (decide (v3 > (IntKind.wrap .i64 ((IntKind.wrap .i64 (2 * v2)) + 1)))) then
                  F55_j1 k2 v1 v2 true
                else
                  F55_j1 k2 v1 v2 (decide (v4 > (IntKind.wrap .i64 ((IntKind.wrap .i64 (2 * v2)) + 1)))))))
          else
            F55_j1 k2 v1 v2 false)))
    else
      some (0))
end

def F55 (k : Nat) (v1 : (List T75)) : Option (Int) :=
  (bif (decide (((l75 v1).length : Int) > 1048576)) then
    some (1)
  else
    F55_l0 k v1 0)

theorem F55_ok (k : Nat) : ∀ (v1 : (List T75)) (r1 : Int), F55 k v1 = some (r1) → Fn prog 55 [(.sl (l75 v1))] [] (aI r1) [] := by
  intro v1 r1 h
  rw [F55] at h
  refine Fn_bodyK hT Go.Proofs.Try.func55 (c := Go.Proofs.Try.f55.body.getD .skip) (by kernel_rfl) (by kernel_rfl) (by kernel_rfl) ?_
  refine zs hT [0] [(0, (.sl (l75 v1)))] ?_
  refine AW_seq ?_
  refine zs hT [0, 7] [(0, (.sl (l75 v1))), (7, (.bool (decide (((l75 v1).length : Int) > 1048576))))] ?_
  rcases bif_split h with ⟨h1, h⟩ | ⟨h1, h⟩
  · refine zT h1 ?_
    refine zs hT [2] [(2, (aI 1))] ?_
    refine AE_ret ?_
    refine AE_seqR ?_
    refine zK [2] [(2, (aI 1))] ?_
    simp only [Option.some.injEq] at h
    subst h
    exact zEnd
  · refine zN h1 ?_
    refine AE_skip ?_
    refine AE_seqN ?_
    refine AW_seq ?_
    refine zs hT [8, 9, 10] [(8, (.sl (l75 v1))), (9, (aI ((l75 v1).length : Int))), (10, (aI 0))] ?_
    refine AW_block ?_
    refine zKw [8, 9, 10] [(8, (.sl (l75 v1))), (9, (aI ((l75 v1).length : Int))), (10, (aI 0))] ?_
    refine AW_loop (fun n env L => n ≤ k ∧ ∃ (v2 : Int), env = [(8, (.sl (l75 v1))), (9, (aI ((l75 v1).length : Int))), (10, (aI v2))] ∧ L = [] ∧ F55_l0 n v1 v2 = some (r1)) k ⟨Nat.le_refl _, 0, rfl, rfl, h⟩ ?_
    rintro n _ _ ⟨hn, v2, rfl, rfl, h⟩
    cases n with
    | zero => rw [F55_l0] at h; cases h
    | succ k2 =>
      rw [F55_l0] at h
      refine zs hT [8, 9, 10, 11] [(8, (.sl (l75 v1))), (9, (aI ((l75 v1).length : Int))), (10, (aI v2)), (11, (.bool (decide (v2 < ((l75 v1).length : Int)))))] ?_
      refine AW_seq ?_
      rcases bif_split h with ⟨h4, h⟩ | ⟨h4, h⟩
      · refine zT h4 ?_
        refine AE_skip ?_
        refine AE_seqN ?_
        refine AW_seq ?_
        refine AW_block ?_
        refine AW_seq ?_
        obtain ⟨⟨v3, v4⟩, h5, h⟩ := bsm h
        try dsimp only at h
        refine AW_reg ?_
        refine zm hT 1 [8, 9, 10, 12] [(8, (.sl (l75 v1))), (9, (aI ((l75 v1).length : Int))), (10, (aI v2)), (12, (aI v2))] ?_
        refine zO (jX hT 2 (i75 h5)) ?_
        refine zE hT 4 [3, 4, 8, 9, 10] [(3, (aI v2)), (4, (.ptr 0 0)), (8, (.sl (l75 v1))), (9, (aI ((l75 v1).length : Int))), (10, (aI v2))] [.cells [(aI v3), (aI v4)]] ?_
        refine AE_seqN ?_
        refine AW_join (fun env L => ∃ (v5 : Int) (v6 : Bool) (v7 : Int) (v8 : Int), env = [(8, (.sl (l75 v1))), (9, (aI ((l75 v1).length : Int))), (10, (aI v5)), (43, (.bool v6))] ∧ L = [.cells [(aI v7), (aI v8)]] ∧ ∃ n, n ≤ k2 ∧ F55_j1 n v1 v5 v6 = some (r1)) ?_ ?_
        · obtain ⟨⟨v9, v10⟩, h6, h⟩ := bsm h
          try dsimp only at h
          rcases bif_split h with ⟨h7, h⟩ | ⟨h7, h⟩
          · rcases bif_split h with ⟨h8, h⟩ | ⟨h8, h⟩
            · refine AW_drx hmix [⟨(.agg [(aI v3), (aI v4)]), [], 0, 0, false⟩, ⟨(.agg [(aI v9), (aI v10)]), [], 0, 0, false⟩, ⟨(.bool (!((v3 == v9) && ((v4 == v10) && true)))), [0, 1], 0, 0, false⟩, ⟨(.bool true), [0, 1, 2], 0, 0, false⟩, ⟨(.ptr 0 0), [0, 1, 2, 3], 0, 0, false⟩, ⟨(aI v3), [0, 1, 2, 3, 4], 0, 0, false⟩, ⟨(.bool (decide (v3 < 0))), [0, 1, 2, 3, 4, 5], 0, 0, false⟩, ⟨(.bool true), [0, 1, 2, 3, 4, 5, 6], 0, 0, false⟩, ⟨(.tup []), [0, 1, 2, 3, 4, 5, 6, 7], 0, 0, false⟩, ⟨(.tup []), [0, 1, 2, 3, 4, 5, 6, 7, 8], 0, 0, false⟩, ⟨(.tup []), [0, 1, 2, 3, 4, 5, 6, 7, 8, 9], 0, 0, false⟩, ⟨(.bool true), [0, 1, 2, 3, 4, 5, 6, 7, 8, 9, 10], 0, 0, false⟩, ⟨(.bool true), [0, 1, 2, 3, 4, 5, 6, 7, 8, 9, 10, 11], 0, 0, false⟩, ⟨(.tup []), [0, 1, 2, 3, 4, 5, 6, 7, 8, 9, 10, 11, 12], 0, 0, false⟩, ⟨(.tup []), [0, 1, 2, 3, 4, 5, 6, 7, 8, 9, 10, 11, 12, 13], 0, 0, false⟩, ⟨(.tup []), [0, 1, 2, 3, 4, 5, 6, 7, 8, 9, 10, 11, 12], 0, 0, false⟩, ⟨(.tup []), [0, 1, 2, 3, 4, 5, 6, 7, 8, 9, 10, 11, 12, 15], 0, 0, false⟩, ⟨(.tup []), [0, 1, 2, 3, 4, 5, 6, 7, 8, 9, 10, 11, 12, 15, 16], 0, 0, false⟩, ⟨(.tup []), [0, 1, 2, 3, 4, 5, 6, 7, 8, 9, 10, 11, 12, 13, 14, 15, 16, 17], 0, 0, false⟩, ⟨(.bool true), [0, 1, 2, 3, 4, 5, 6, 7, 8, 9, 10, 11, 12, 13, 14, 15, 16, 17, 18], 0, 0, false⟩, ⟨(.bool true), [0, 1, 2, 3, 4, 5, 6, 7, 8, 9, 10, 11, 12, 13, 14, 15, 16, 17, 18, 19], 0, 0, false⟩, ⟨(.tup []), [0, 1, 2, 3, 4, 5, 6, 7, 8, 9, 10, 11, 12, 13, 14, 15, 16, 17, 18, 19, 20], 0, 0, false⟩, ⟨(.tup []), [0, 1, 2, 3, 4, 5, 6, 7, 8, 9, 10, 11, 12, 13, 14, 15, 16, 17, 18, 19, 20, 21], 0, 0, false⟩, ⟨(.tup []), [0, 1, 2, 3, 4, 5, 6, 7, 8, 9, 10, 11, 12, 13, 14, 15, 16, 17, 18, 19, 20], 0, 0, false⟩, ⟨(.tup []), [0, 1, 2, 3, 4, 5, 6, 7, 8, 9, 10, 11, 12, 13, 14, 15, 16, 17, 18, 19, 20, 23], 0, 0, false⟩, ⟨(.tup []), [0, 1, 2, 3, 4, 5, 6, 7, 8, 9, 10, 11, 12, 13, 14, 15, 16, 17, 18, 19, 20, 23, 24], 0, 0, false⟩, ⟨(.tup []), [0, 1, 2, 3, 4, 5, 6, 7, 8, 9, 10, 11, 12, 13, 14, 15, 16, 17, 18, 19, 20, 21, 22, 23, 24, 25], 0, 0, false⟩, ⟨(.bool true), [0, 1, 2, 3, 4, 5, 6, 7, 8, 9, 10, 11, 12, 13, 14, 15, 16, 17, 18, 19, 20, 21, 22, 23, 24, 25, 26], 0, 0, false⟩, ⟨(.bool true), [0, 1, 2, 3, 4, 5, 6, 7, 8, 9, 10, 11, 12, 13, 14, 15, 16, 17, 18, 19, 20, 21, 22, 23, 24, 25, 26, 27], 0, 0, false⟩] [] (fun _ => [.cells [(aI v3), (aI v4)]]) [8, 9, 10, 43] [(8, (.sl (l75 v1))), (9, (aI ((l75 v1).length : Int))), (10, (aI v2)), (43, (.bool true))] [.cells [(aI v3), (aI v4)]] (by kernel_rfl) rfl rfl (by kernel_rfl) ?_ ?_
              · refine SA_plain hT 1 (by kernel_rfl) ?_
                refine SA_tell (v := (.agg [(aI v9), (aI v10)])) (by kernel_rfl) (by kernel_rfl) (by kernel_rfl) (fun L => (jP Go.Proofs.Try.func45 (F45_ok k2  v9 v10 h6))) ?_
                refine SA_tell (v := (.bool (!((v3 == v9) && ((v4 == v10) && true))))) (by kernel_rfl) (by kernel_rfl) (by kernel_rfl) (fun L => (OpJ_eqE hT (t := 76) (x := [(aI v3), (aI v4)]) (y := [(aI v9), (aI v10)]) true (by kernel_rfl) flat76 (by kernel_rfl))) ?_
                refine SA_at 0 (v := (.bool true)) (Lp := [.cells [(aI v3), (aI v4)]]) (Lq := [.cells [(aI v3), (aI v4)]]) (by kernel_rfl) (by kernel_rfl) (by kernel_rfl) (by kernel_rfl) (by kernel_rfl) (by kernel_rfl) (jQ hT h7) ?_
                refine SA_plain hT 3 (by kernel_rfl) ?_
                refine SA_at 0 (v := (.bool true)) (Lp := [.cells [(aI v3), (aI v4)]]) (Lq := [.cells [(aI v3), (aI v4)]]) (by kernel_rfl) (by kernel_rfl) (by kernel_rfl) (by kernel_rfl) (by kernel_rfl) (by kernel_rfl) (jQ hT h8) ?_
                refine SA_plain hT 21 (by kernel_rfl) ?_
                exact SA_end (by kernel_rfl)
              refine zK [8, 9, 10, 43] [(8, (.sl (l75 v1))), (9, (aI ((l75 v1).length : Int))), (10, (aI v2)), (43, (.bool true))] ?_
              exact AE_done ⟨v2, true, v3, v4, rfl, rfl, k2, by omega, h⟩
            · rcases bif_split h with ⟨h9, h⟩ | ⟨h9, h⟩
              · refine AW_drx hmix [⟨(.agg [(aI v3), (aI v4)]), [], 0, 0, false⟩, ⟨(.agg [(aI v9), (aI v10)]), [], 0, 0, false⟩, ⟨(.bool (!((v3 == v9) && ((v4 == v10) && true)))), [0, 1], 0, 0, false⟩, ⟨(.bool true), [0, 1, 2], 0, 0, false⟩, ⟨(.ptr 0 0), [0, 1, 2, 3], 0, 0, false⟩, ⟨(aI v3), [0, 1, 2, 3, 4], 0, 0, false⟩, ⟨(.bool (decide (v3 < 0))), [0, 1, 2, 3, 4, 5], 0, 0, false⟩, ⟨(.bool false), [0, 1, 2, 3, 4, 5, 6], 0, 0, false⟩, ⟨(.ptr 0 1), [0, 1, 2, 3, 4, 5, 6, 7], 0, 0, false⟩, ⟨(aI v4), [0, 1, 2, 3, 4, 5, 6, 7, 8], 0, 0, false⟩, ⟨(.bool (decide (v4 < 0))), [0, 1, 2, 3, 4, 5, 6, 7, 8, 9], 0, 0, false⟩, ⟨(.bool (decide (v4 < 0))), [0, 1, 2, 3, 4, 5, 6, 7, 8, 9, 10], 0, 0, false⟩, ⟨(.bool true), [0, 1, 2, 3, 4, 5, 6, 7, 8, 9, 10, 11], 0, 0, false⟩, ⟨(.tup []), [0, 1, 2, 3, 4, 5, 6, 7, 8, 9, 10, 11, 12], 0, 0, false⟩, ⟨(.tup []), [0, 1, 2, 3, 4, 5, 6, 7, 8, 9, 10, 11, 12, 13], 0, 0, false⟩, ⟨(.tup []), [0, 1, 2, 3, 4, 5, 6, 7, 8, 9, 10, 11, 12], 0, 0, false⟩, ⟨(.tup []), [0, 1, 2, 3, 4, 5, 6, 7, 8, 9, 10, 11, 12, 15], 0, 0, false⟩, ⟨(.tup []), [0, 1, 2, 3, 4, 5, 6, 7, 8, 9, 10, 11, 12, 15, 16], 0, 0, false⟩, ⟨(.tup []), [0, 1, 2, 3, 4, 5, 6, 7, 8, 9, 10, 11, 12, 13, 14, 15, 16, 17], 0, 0, false⟩, ⟨(.bool true), [0, 1, 2, 3, 4, 5, 6, 7, 8, 9, 10, 11, 12, 13, 14, 15, 16, 17, 18], 0, 0, false⟩, ⟨(.bool true), [0, 1, 2, 3, 4, 5, 6, 7, 8, 9, 10, 11, 12, 13, 14, 15, 16, 17, 18, 19], 0, 0, false⟩, ⟨(.tup []), [0, 1, 2, 3, 4, 5, 6, 7, 8, 9, 10, 11, 12, 13, 14, 15, 16, 17, 18, 19, 20], 0, 0, false⟩, ⟨(.tup []), [0, 1, 2, 3, 4, 5, 6, 7, 8, 9, 10, 11, 12, 13, 14, 15, 16, 17, 18, 19, 20, 21], 0, 0, false⟩, ⟨(.tup []), [0, 1, 2, 3, 4, 5, 6, 7, 8, 9, 10, 11, 12, 13, 14, 15, 16, 17, 18, 19, 20], 0, 0, false⟩, ⟨(.tup []), [0, 1, 2, 3, 4, 5, 6, 7, 8, 9, 10, 11, 12, 13, 14, 15, 16, 17, 18, 19, 20, 23], 0, 0, false⟩, ⟨(.tup []), [0, 1, 2, 3, 4, 5, 6, 7, 8, 9, 10, 11, 12, 13, 14, 15, 16, 17, 18, 19, 20, 23, 24], 0, 0, false⟩, ⟨(.tup []), [0, 1, 2, 3, 4, 5, 6, 7, 8, 9, 10, 11, 12, 13, 14, 15, 16, 17, 18, 19, 20, 21, 22, 23, 24, 25], 0, 0, false⟩, ⟨(.bool true), [0, 1, 2, 3, 4, 5, 6, 7, 8, 9, 10, 11, 12, 13, 14, 15, 16, 17, 18, 19, 20, 21, 22, 23, 24, 25, 26], 0, 0, false⟩, ⟨(.bool true), [0, 1, 2, 3, 4, 5, 6, 7, 8, 9, 10, 11, 12, 13, 14, 15, 16, 17, 18, 19, 20, 21, 22, 23, 24, 25, 26, 27], 0, 0, false⟩] [] (fun _ => [.cells [(aI v3), (aI v4)]]) [8, 9, 10, 43] [(8, (.sl (l75 v1))), (9, (aI ((l75 v1).length : Int))), (10, (aI v2)), (43, (.bool true))] [.cells [(aI v3), (aI v4)]] (by kernel_rfl) rfl rfl (by kernel_rfl) ?_ ?_
                · refine SA_plain hT 1 (by kernel_rfl) ?_
                  refine SA_tell (v := (.agg [(aI v9), (aI v10)])) (by kernel_rfl) (by kernel_rfl) (by kernel_rfl) (fun L => (jP Go.Proofs.Try.func45 (F45_ok k2  v9 v10 h6))) ?_
                  refine SA_tell (v := (.bool (!((v3 == v9) && ((v4 == v10) && true))))) (by kernel_rfl) (by kernel_rfl) (by kernel_rfl) (fun L => (OpJ_eqE hT (t := 76) (x := [(aI v3), (aI v4)]) (y := [(aI v9), (aI v10)]) true (by kernel_rfl) flat76 (by kernel_rfl))) ?_
                  refine SA_at 0 (v := (.bool true)) (Lp := [.cells [(aI v3), (aI v4)]]) (Lq := [.cells [(aI v3), (aI v4)]]) (by kernel_rfl) (by kernel_rfl) (by kernel_rfl) (by kernel_rfl) (by kernel_rfl) (by kernel_rfl) (jQ hT h7) ?_
                  refine SA_plain hT 3 (by kernel_rfl) ?_
                  refine SA_at 0 (v := (.bool false)) (Lp := [.cells [(aI v3), (aI v4)]]) (Lq := [.cells [(aI v3), (aI v4)]]) (by kernel_rfl) (by kernel_rfl) (by kernel_rfl) (by kernel_rfl) (by kernel_rfl) (by kernel_rfl) (jQ hT h8) ?_
                  refine SA_plain hT 4 (by kernel_rfl) ?_
                  refine SA_at 0 (v := (.bool true)) (Lp := [.cells [(aI v3), (aI v4)]]) (Lq := [.cells [(aI v3), (aI v4)]]) (by kernel_rfl) (by kernel_rfl) (by kernel_rfl) (by kernel_rfl) (by kernel_rfl) (by kernel_rfl) (jQ hT h9) ?_
                  refine SA_plain hT 16 (by kernel_rfl) ?_
                  exact SA_end (by kernel_rfl)
                refine zK [8, 9, 10, 43] [(8, (.sl (l75 v1))), (9, (aI ((l75 v1).length : Int))), (10, (aI v2)), (43, (.bool true))] ?_
                exact AE_done ⟨v2, true, v3, v4, rfl, rfl, k2, by omega, h⟩
              · rcases bif_split h with ⟨h10, h⟩ | ⟨h10, h⟩
                · refine AW_drx hmix [⟨(.agg [(aI v3), (aI v4)]), [], 0, 0, false⟩, ⟨(.agg [(aI v9), (aI v10)]), [], 0, 0, false⟩, ⟨(.bool (!((v3 == v9) && ((v4 == v10) && true)))), [0, 1], 0, 0, false⟩, ⟨(.bool true), [0, 1, 2], 0, 0, false⟩, ⟨(.ptr 0 0), [0, 1, 2, 3], 0, 0, false⟩, ⟨(aI v3), [0, 1, 2, 3, 4], 0, 0, false⟩, ⟨(.bool (decide (v3 < 0))), [0, 1, 2, 3, 4, 5], 0, 0, false⟩, ⟨(.bool false), [0, 1, 2, 3, 4, 5, 6], 0, 0, false⟩, ⟨(.ptr 0 1), [0, 1, 2, 3, 4, 5, 6, 7], 0, 0, false⟩, ⟨(aI v4), [0, 1, 2, 3, 4, 5, 6, 7, 8], 0, 0, false⟩, ⟨(.bool (decide (v4 < 0))), [0, 1, 2, 3, 4, 5, 6, 7, 8, 9], 0, 0, false⟩, ⟨(.bool (decide (v4 < 0))), [0, 1, 2, 3, 4, 5, 6, 7, 8, 9, 10], 0, 0, false⟩, ⟨(.bool false), [0, 1, 2, 3, 4, 5, 6, 7, 8, 9, 10, 11], 0, 0, false⟩, ⟨(.ptr 0 0), [0, 1, 2, 3, 4, 5, 6, 7, 8, 9, 10, 11, 12], 0, 0, false⟩, ⟨(aI v3), [0, 1, 2, 3, 4, 5, 6, 7, 8, 9, 10, 11, 12, 13], 0, 0, false⟩, ⟨(aI v2), [0, 1, 2, 3, 4, 5, 6, 7, 8, 9, 10, 11, 12], 0, 0, false⟩, ⟨(aI (IntKind.wrap .i64 (2 * v2))), [0, 1, 2, 3, 4, 5, 6, 7, 8, 9, 10, 11, 12, 15], 0, 0, false⟩, ⟨(aI (IntKind.wrap .i64 ((IntKind.wrap .i64 (2 * v2)) + 1))), [0, 1, 2, 3, 4, 5, 6, 7, 8, 9, 10, 11, 12, 15, 16], 0, 0, false⟩, ⟨(.bool (decide (v3 > (IntKind.wrap .i64 ((IntKind.wrap .i64 (2 * v2)) + 1))))), [0, 1, 2, 3, 4, 5, 6, 7, 8, 9, 10, 11, 12, 13, 14, 15, 16, 17], 0, 0, false⟩, ⟨(.bool (decide (v3 > (IntKind.wrap .i64 ((IntKind.wrap .i64 (2 * v2)) + 1))))), [0, 1, 2, 3, 4, 5, 6, 7, 8, 9, 10, 11, 12, 13, 14, 15, 16, 17, 18], 0, 0, false⟩, ⟨(.bool true), [0, 1, 2, 3, 4, 5, 6, 7, 8, 9, 10, 11, 12, 13, 14, 15, 16, 17, 18, 19], 0, 0, false⟩, ⟨(.tup []), [0, 1, 2, 3, 4, 5, 6, 7, 8, 9, 10, 11, 12, 13, 14, 15, 16, 17, 18, 19, 20], 0, 0, false⟩, ⟨(.tup []), [0, 1, 2, 3, 4, 5, 6, 7, 8, 9, 10, 11, 12, 13, 14, 15, 16, 17, 18, 19, 20, 21], 0, 0, false⟩, ⟨(.tup []), [0, 1, 2, 3, 4, 5, 6, 7, 8, 9, 10, 11, 12, 13, 14, 15, 16, 17, 18, 19, 20], 0, 0, false⟩, ⟨(.tup []), [0, 1, 2, 3, 4, 5, 6, 7, 8, 9, 10, 11, 12, 13, 14, 15, 16, 17, 18, 19, 20, 23], 0, 0, false⟩, ⟨(.tup []), [0, 1, 2, 3, 4, 5, 6, 7, 8, 9, 10, 11, 12, 13, 14, 15, 16, 17, 18, 19, 20, 23, 24], 0, 0, false⟩, ⟨(.tup []), [0, 1, 2, 3, 4, 5, 6, 7, 8, 9, 10, 11, 12, 13, 14, 15, 16, 17, 18, 19, 20, 21, 22, 23, 24, 25], 0, 0, false⟩, ⟨(.bool true), [0, 1, 2, 3, 4, 5, 6, 7, 8, 9, 10, 11, 12, 13, 14, 15, 16, 17, 18, 19, 20, 21, 22, 23, 24, 25, 26], 0, 0, false⟩, ⟨(.bool true), [0, 1, 2, 3, 4, 5, 6, 7, 8, 9, 10, 11, 12, 13, 14, 15, 16, 17, 18, 19, 20, 21, 22, 23, 24, 25, 26, 27], 0, 0, false⟩] [] (fun _ => [.cells [(aI v3), (aI v4)]]) [8, 9, 10, 43] [(8, (.sl (l75 v1))), (9, (aI ((l75 v1).length : Int))), (10, (aI v2)), (43, (.bool true))] [.cells [(aI v3), (aI v4)]] (by kernel_rfl) rfl rfl (by kernel_rfl) ?_ ?_
                  · refine SA_plain hT 1 (by kernel_rfl) ?_
                    refine SA_tell (v := (.agg [(aI v9), (aI v10)])) (by kernel_rfl) (by kernel_rfl) (by kernel_rfl) (fun L => (jP Go.Proofs.Try.func45 (F45_ok k2  v9 v10 h6))) ?_
                    refine SA_tell (v := (.bool (!((v3 == v9) && ((v4 == v10) && true))))) (by kernel_rfl) (by kernel_rfl) (by kernel_rfl) (fun L => (OpJ_eqE hT (t := 76) (x := [(aI v3), (aI v4)]) (y := [(aI v9), (aI v10)]) true (by kernel_rfl) flat76 (by kernel_rfl))) ?_
                    refine SA_at 0 (v := (.bool true)) (Lp := [.cells [(aI v3), (aI v4)]]) (Lq := [.cells [(aI v3), (aI v4)]]) (by kernel_rfl) (by kernel_rfl) (by kernel_rfl) (by kernel_rfl) (by kernel_rfl) (by kernel_rfl) (jQ hT h7) ?_
                    refine SA_plain hT 3 (by kernel_rfl) ?_
                    refine SA_at 0 (v := (.bool false)) (Lp := [.cells [(aI v3), (aI v4)]]) (Lq := [.cells [(aI v3), (aI v4)]]) (by kernel_rfl) (by kernel_rfl) (by kernel_rfl) (by kernel_rfl) (by kernel_rfl) (by kernel_rfl) (jQ hT h8) ?_
                    refine SA_plain hT 4 (by kernel_rfl) ?_
                    refine SA_at 0 (v := (.bool false)) (Lp := [.cells [(aI v3), (aI v4)]]) (Lq := [.cells [(aI v3), (aI v4)]]) (by kernel_rfl) (by kernel_rfl) (by kernel_rfl) (by kernel_rfl) (by kernel_rfl) (by kernel_rfl) (jQ hT h9) ?_
                    refine SA_plain hT 7 (by kernel_rfl) ?_
                    refine SA_at 0 (v := (.bool true)) (Lp := [.cells [(aI v3), (aI v4)]]) (Lq := [.cells [(aI v3), (aI v4)]]) (by kernel_rfl) (by kernel_rfl) (by kernel_rfl) (by kernel_rfl) (by kernel_rfl) (by kernel_rfl) (jQ hT h10) ?_
                    refine SA_plain hT 8 (by kernel_rfl) ?_
                    exact SA_end (by kernel_rfl)
                  refine zK [8, 9, 10, 43] [(8, (.sl (l75 v1))), (9, (aI ((l75 v1).length : Int))), (10, (aI v2)), (43, (.bool true))] ?_
                  exact AE_done ⟨v2, true, v3, v4, rfl, rfl, k2, by omega, h⟩
                · refine AW_drx hmix [⟨(.agg [(aI v3), (aI v4)]), [], 0, 0, false⟩, ⟨(.agg [(aI v9), (aI v10)]), [], 0, 0, false⟩, ⟨(.bool (!((v3 == v9) && ((v4 == v10) && true)))), [0, 1], 0, 0, false⟩, ⟨(.bool true), [0, 1, 2], 0, 0, false⟩, ⟨(.ptr 0 0), [0, 1, 2, 3], 0, 0, false⟩, ⟨(aI v3), [0, 1, 2, 3, 4], 0, 0, false⟩, ⟨(.bool (decide (v3 < 0))), [0, 1, 2, 3, 4, 5], 0, 0, false⟩, ⟨(.bool false), [0, 1, 2, 3, 4, 5, 6], 0, 0, false⟩, ⟨(.ptr 0 1), [0, 1, 2, 3, 4, 5, 6, 7], 0, 0, false⟩, ⟨(aI v4), [0, 1, 2, 3, 4, 5, 6, 7, 8], 0, 0, false⟩, ⟨(.bool (decide (v4 < 0))), [0, 1, 2, 3, 4, 5, 6, 7, 8, 9], 0, 0, false⟩, ⟨(.bool (decide (v4 < 0))), [0, 1, 2, 3, 4, 5, 6, 7, 8, 9, 10], 0, 0, false⟩, ⟨(.bool false), [0, 1, 2, 3, 4, 5, 6, 7, 8, 9, 10, 11], 0, 0, false⟩, ⟨(.ptr 0 0), [0, 1, 2, 3, 4, 5, 6, 7, 8, 9, 10, 11, 12], 0, 0, false⟩, ⟨(aI v3), [0, 1, 2, 3, 4, 5, 6, 7, 8, 9, 10, 11, 12, 13], 0, 0, false⟩, ⟨(aI v2), [0, 1, 2, 3, 4, 5, 6, 7, 8, 9, 10, 11, 12], 0, 0, false⟩, ⟨(aI (IntKind.wrap .i64 (2 * v2))), [0, 1, 2, 3, 4, 5, 6, 7, 8, 9, 10, 11, 12, 15], 0, 0, false⟩, ⟨(aI (IntKind.wrap .i64 ((IntKind.wrap .i64 (2 * v2)) + 1))), [0, 1, 2, 3, 4, 5, 6, 7, 8, 9, 10, 11, 12, 15, 16], 0, 0, false⟩, ⟨(.bool (decide (v3 > (IntKind.wrap .i64 ((IntKind.wrap .i64 (2 * v2)) + 1))))), [0, 1, 2, 3, 4, 5, 6, 7, 8, 9, 10, 11, 12, 13, 14, 15, 16, 17], 0, 0, false⟩, ⟨(.bool (decide (v3 > (IntKind.wrap .i64 ((IntKind.wrap .i64 (2 * v2)) + 1))))), [0, 1, 2, 3, 4, 5, 6, 7, 8, 9, 10, 11, 12, 13, 14, 15, 16, 17, 18], 0, 0, false⟩, ⟨(.bool false), [0, 1, 2, 3, 4, 5, 6, 7, 8, 9, 10, 11, 12, 13, 14, 15, 16, 17, 18, 19], 0, 0, false⟩, ⟨(.ptr 0 1), [0, 1, 2, 3, 4, 5, 6, 7, 8, 9, 10, 11, 12, 13, 14, 15, 16, 17, 18, 19, 20], 0, 0, false⟩, ⟨(aI v4), [0, 1, 2, 3, 4, 5, 6, 7, 8, 9, 10, 11, 12, 13, 14, 15, 16, 17, 18, 19, 20, 21], 0, 0, false⟩, ⟨(aI v2), [0, 1, 2, 3, 4, 5, 6, 7, 8, 9, 10, 11, 12, 13, 14, 15, 16, 17, 18, 19, 20], 0, 0, false⟩, ⟨(aI (IntKind.wrap .i64 (2 * v2))), [0, 1, 2, 3, 4, 5, 6, 7, 8, 9, 10, 11, 12, 13, 14, 15, 16, 17, 18, 19, 20, 23], 0, 0, false⟩, ⟨(aI (IntKind.wrap .i64 ((IntKind.wrap .i64 (2 * v2)) + 1))), [0, 1, 2, 3, 4, 5, 6, 7, 8, 9, 10, 11, 12, 13, 14, 15, 16, 17, 18, 19, 20, 23, 24], 0, 0, false⟩, ⟨(.bool (decide (v4 > (IntKind.wrap .i64 ((IntKind.wrap .i64 (2 * v2)) + 1))))), [0, 1, 2, 3, 4, 5, 6, 7, 8, 9, 10, 11, 12, 13, 14, 15, 16, 17, 18, 19, 20, 21, 22, 23, 24, 25], 0, 0, false⟩, ⟨(.bool (decide (v4 > (IntKind.wrap .i64 ((IntKind.wrap .i64 (2 * v2)) + 1))))), [0, 1, 2, 3, 4, 5, 6, 7, 8, 9, 10, 11, 12, 13, 14, 15, 16, 17, 18, 19, 20, 21, 22, 23, 24, 25, 26], 0, 0, false⟩, ⟨(.bool (decide (v4 > (IntKind.wrap .i64 ((IntKind.wrap .i64 (2 * v2)) + 1))))), [0, 1, 2, 3, 4, 5, 6, 7, 8, 9, 10, 11, 12, 13, 14, 15, 16, 17, 18, 19, 20, 21, 22, 23, 24, 25, 26, 27], 0, 0, false⟩] [] (fun _ => [.cells [(aI v3), (aI v4)]]) [8, 9, 10, 43] [(8, (.sl (l75 v1))), (9, (aI ((l75 v1).length : Int))), (10, (aI v2)), (43, (.bool (decide (v4 > (IntKind.wrap .i64 ((IntKind.wrap .i64 (2 * v2)) + 1))))))] [.cells [(aI v3), (aI v4)]] (by kernel_rfl) rfl rfl (by kernel_rfl) ?_ ?_
                  · refine SA_plain hT 1 (by kernel_rfl) ?_
                    refine SA_tell (v := (.agg [(aI v9), (aI v10)])) (by kernel_rfl) (by kernel_rfl) (by kernel_rfl) (fun L => (jP Go.Proofs.Try.func45 (F45_ok k2  v9 v10 h6))) ?_
                    refine SA_tell (v := (.bool (!((v3 == v9) && ((v4 == v10) && true))))) (by kernel_rfl) (by kernel_rfl) (by kernel_rfl) (fun L => (OpJ_eqE hT (t := 76) (x := [(aI v3), (aI v4)]) (y := [(aI v9), (aI v10)]) true (by kernel_rfl) flat76 (by kernel_rfl))) ?_
                    refine SA_at 0 (v := (.bool true)) (Lp := [.cells [(aI v3), (aI v4)]]) (Lq := [.cells [(aI v3), (aI v4)]]) (by kernel_rfl) (by kernel_rfl) (by kernel_rfl) (by kernel_rfl) (by kernel_rfl) (by kernel_rfl) (jQ hT h7) ?_
                    refine SA_plain hT 3 (by kernel_rfl) ?_
                    refine SA_at 0 (v := (.bool false)) (Lp := [.cells [(aI v3), (aI v4)]]) (Lq := [.cells [(aI v3), (aI v4)]]) (by kernel_rfl) (by kernel_rfl) (by kernel_rfl) (by kernel_rfl) (by kernel_rfl) (by kernel_rfl) (jQ hT h8) ?_
                    refine SA_plain hT 4 (by kernel_rfl) ?_
                    refine SA_at 0 (v := (.bool false)) (Lp := [.cells [(aI v3), (aI v4)]]) (Lq := [.cells [(aI v3), (aI v4)]]) (by kernel_rfl) (by kernel_rfl) (by kernel_rfl) (by kernel_rfl) (by kernel_rfl) (by kernel_rfl) (jQ hT h9) ?_
                    refine SA_plain hT 7 (by kernel_rfl) ?_
                    refine SA_at 0 (v := (.bool false)) (Lp := [.cells [(aI v3), (aI v4)]]) (Lq := [.cells [(aI v3), (aI v4)]]) (by kernel_rfl) (by kernel_rfl) (by kernel_rfl) (by kernel_rfl) (by kernel_rfl) (by kernel_rfl) (jQ hT h10) ?_
                    refine SA_plain hT 8 (by kernel_rfl) ?_
                    exact SA_end (by kernel_rfl)
                  refine zK [8, 9, 10, 43] [(8, (.sl (l75 v1))), (9, (aI ((l75 v1).length : Int))), (10, (aI v2)), (43, (.bool (decide (v4 > (IntKind.wrap .i64 ((IntKind.wrap .i64 (2 * v2)) + 1))))))] ?_
                  exact AE_done ⟨v2, (decide (v4 > (IntKind.wrap .i64 ((IntKind.wrap .i64 (2 * v2)) + 1)))), v3, v4, rfl, rfl, k2, by omega, h⟩
          · refine AW_drx hmix [⟨(.agg [(aI v3), (aI v4)]), [], 0, 0, false⟩, ⟨(.agg [(aI v9), (aI v10)]), [], 0, 0, false⟩, ⟨(.bool (!((v3 == v9) && ((v4 == v10) && true)))), [0, 1], 0, 0, false⟩, ⟨(.bool false), [0, 1, 2], 0, 0, false⟩, ⟨(.tup []), [0, 1, 2, 3], 0, 0, false⟩, ⟨(.tup []), [0, 1, 2, 3, 4], 0, 0, false⟩, ⟨(.tup []), [0, 1, 2, 3, 4, 5], 0, 0, false⟩, ⟨(.tup []), [0, 1, 2, 3, 4, 5, 6], 0, 0, false⟩, ⟨(.tup []), [0, 1, 2, 3, 4, 5, 6, 7], 0, 0, false⟩, ⟨(.tup []), [0, 1, 2, 3, 4, 5, 6, 7, 8], 0, 0, false⟩, ⟨(.tup []), [0, 1, 2, 3, 4, 5, 6, 7, 8, 9], 0, 0, false⟩, ⟨(.tup []), [0, 1, 2, 3, 4, 5, 6, 7, 8, 9, 10], 0, 0, false⟩, ⟨(.tup []), [0, 1, 2, 3, 4, 5, 6, 7, 8, 9, 10, 11], 0, 0, false⟩, ⟨(.tup []), [0, 1, 2, 3, 4, 5, 6, 7, 8, 9, 10, 11, 12], 0, 0, false⟩, ⟨(.tup []), [0, 1, 2, 3, 4, 5, 6, 7, 8, 9, 10, 11, 12, 13], 0, 0, false⟩, ⟨(.tup []), [0, 1, 2, 3, 4, 5, 6, 7, 8, 9, 10, 11, 12], 0, 0, false⟩, ⟨(.tup []), [0, 1, 2, 3, 4, 5, 6, 7, 8, 9, 10, 11, 12, 15], 0, 0, false⟩, ⟨(.tup []), [0, 1, 2, 3, 4, 5, 6, 7, 8, 9, 10, 11, 12, 15, 16], 0, 0, false⟩, ⟨(.tup []), [0, 1, 2, 3, 4, 5, 6, 7, 8, 9, 10, 11, 12, 13, 14, 15, 16, 17], 0, 0, false⟩, ⟨(.tup []), [0, 1, 2, 3, 4, 5, 6, 7, 8, 9, 10, 11, 12, 13, 14, 15, 16, 17, 18], 0, 0, false⟩, ⟨(.tup []), [0, 1, 2, 3, 4, 5, 6, 7, 8, 9, 10, 11, 12, 13, 14, 15, 16, 17, 18, 19], 0, 0, false⟩, ⟨(.tup []), [0, 1, 2, 3, 4, 5, 6, 7, 8, 9, 10, 11, 12, 13, 14, 15, 16, 17, 18, 19, 20], 0, 0, false⟩, ⟨(.tup []), [0, 1, 2, 3, 4, 5, 6, 7, 8, 9, 10, 11, 12, 13, 14, 15, 16, 17, 18, 19, 20, 21], 0, 0, false⟩, ⟨(.tup []), [0, 1, 2, 3, 4, 5, 6, 7, 8, 9, 10, 11, 12, 13, 14, 15, 16, 17, 18, 19, 20], 0, 0, false⟩, ⟨(.tup []), [0, 1, 2, 3, 4, 5, 6, 7, 8, 9, 10, 11, 12, 13, 14, 15, 16, 17, 18, 19, 20, 23], 0, 0, false⟩, ⟨(.tup []), [0, 1, 2, 3, 4, 5, 6, 7, 8, 9, 10, 11, 12, 13, 14, 15, 16, 17, 18, 19, 20, 23, 24], 0, 0, false⟩, ⟨(.tup []), [0, 1, 2, 3, 4, 5, 6, 7, 8, 9, 10, 11, 12, 13, 14, 15, 16, 17, 18, 19, 20, 21, 22, 23, 24, 25], 0, 0, false⟩, ⟨(.tup []), [0, 1, 2, 3, 4, 5, 6, 7, 8, 9, 10, 11, 12, 13, 14, 15, 16, 17, 18, 19, 20, 21, 22, 23, 24, 25, 26], 0, 0, false⟩, ⟨(.bool false), [0, 1, 2, 3, 4, 5, 6, 7, 8, 9, 10, 11, 12, 13, 14, 15, 16, 17, 18, 19, 20, 21, 22, 23, 24, 25, 26, 27], 0, 0, false⟩] [] (fun _ => [.cells [(aI v3), (aI v4)]]) [8, 9, 10, 43] [(8, (.sl (l75 v1))), (9, (aI ((l75 v1).length : Int))), (10, (aI v2)), (43, (.bool false))] [.cells [(aI v3), (aI v4)]] (by kernel_rfl) rfl rfl (by kernel_rfl) ?_ ?_
            · refine SA_plain hT 1 (by kernel_rfl) ?_
              refine SA_tell (v := (.agg [(aI v9), (aI v10)])) (by kernel_rfl) (by kernel_rfl) (by kernel_rfl) (fun L => (jP Go.Proofs.Try.func45 (F45_ok k2  v9 v10 h6))) ?_
              refine SA_tell (v := (.bool (!((v3 == v9) && ((v4 == v10) && true))))) (by kernel_rfl) (by kernel_rfl) (by kernel_rfl) (fun L => (OpJ_eqE hT (t := 76) (x := [(aI v3), (aI v4)]) (y := [(aI v9), (aI v10)]) true (by kernel_rfl) flat76 (by kernel_rfl))) ?_
              refine SA_at 0 (v := (.bool false)) (Lp := [.cells [(aI v3), (aI v4)]]) (Lq := [.cells [(aI v3), (aI v4)]]) (by kernel_rfl) (by kernel_rfl) (by kernel_rfl) (by kernel_rfl) (by kernel_rfl) (by kernel_rfl) (jQ hT h7) ?_
              refine SA_plain hT 25 (by kernel_rfl) ?_
              exact SA_end (by kernel_rfl)
            refine zK [8, 9, 10, 43] [(8, (.sl (l75 v1))), (9, (aI ((l75 v1).length : Int))), (10, (aI v2)), (43, (.bool false))] ?_
            exact AE_done ⟨v2, false, v3, v4, rfl, rfl, k2, by omega, h⟩
        · rintro _ _ ⟨v5, v6, v7, v8, rfl, rfl, n, hn, h⟩
          obtain _ | k11 := n
          · rw [F55_j1] at h; cases h
          rw [F55_j1] at h
          rcases bif_split h with ⟨h13, h⟩ | ⟨h13, h⟩
          · refine zT h13 ?_
            refine zs hT [2] [(2, (aI 1))] ?_
            refine AE_ret ?_
            refine AE_blkR ?_
            refine AE_seqR ?_
            refine AE_seqR ?_
            refine AE_blkR ?_
            refine AE_seqR ?_
            refine zK [2] [(2, (aI 1))] ?_
            simp only [Option.some.injEq] at h
            subst h
            exact zEnd
          · refine zN h13 ?_
            refine AE_skip ?_
            refine AE_blkN ?_
            refine AE_seqN ?_
            refine zr hT [8, 9, 10] [(8, (.sl (l75 v1))), (9, (aI ((l75 v1).length : Int))), (10, (aI (IntKind.wrap .i64 (v5 + 1))))] ?_
            refine zK [8, 9, 10] [(8, (.sl (l75 v1))), (9, (aI ((l75 v1).length : Int))), (10, (aI (IntKind.wrap .i64 (v5 + 1))))] ?_
            refine zD 0 [] ?_
            exact AE_done ⟨k11, by omega, by omega, (IntKind.wrap .i64 (v5 + 1)), rfl, rfl, h⟩
      · refine zN h4 ?_
        refine AE_exit ?_
        refine AE_seqX ?_
        refine AE_seqX ?_
        refine AE_blkH ?_
        refine AE_seqN ?_
        refine zs hT [2] [(2, (aI 0))] ?_
        refine AE_ret ?_
        refine zK [2] [(2, (aI 0))] ?_
        simp only [Option.some.injEq] at h
        subst h
        exact zEnd

mutual
def F15_j1 : Nat → (List Bool) → (List T75) → Int → Int → (List Bool) → Option ((List Bool))
  | 0, _, _, _, _, _ => none
  | k20 + 1, v2, v1, v7, v8, v9 =>
    F15_l0 k20 v2 v1 v7 (IntKind.wrap .i64 (v8 + 1)) v9
def F15_j2 : Nat → (List Bool) → (List T75) → Int → Int → (List Bool) → Option ((List Bool))
  | 0, _, _, _, _, _ => none
  | k13 + 1, v2, v1, v14, v15, v18 =>
    F15_j1 k13 v2 v1 (IntKind.wrap .i64 (v14 + 1)) v15 v18
def F15_l0 : Nat → (List Bool) → (List T75) → Int → Int → (List Bool) → Option ((List Bool))
  | 0, _, _, _, _, _ => none
  | k3 + 1, v2, v1, v4, v5, v6 =>
    (bif (decide (v5 < ((l75 v1).length : Int))) then
      ((idx v1 v5).bind fun ⟨v10, v11⟩ =>
        ((F45 k3 ).bind fun ⟨v12, v13⟩ =>
          (bif ((v10 == v12) && ((v11 == v13) && true)) then
            (bif (decide (v4 < ((l4 v2).length : Int))) then
              ((idx v2 v4).bind fun v19 =>
                ((appL 1 v6 [v19]).bind fun v20 =>
                  F15_j2 k3 v2 v1 v4 v5 v20))
            else
              ((appL 1 v6 [false]).bind fun v21 =>
                F15_j2 k3 v2 v1 v4 v5 v21))
          else
            ((F17 k3 v6 v10).bind fun v22 =>
              (bif v22 then
                ((F17 k3 v6 v11).bind fun v23 =>
                  ((appL 1 v6 [v23]).bind fun v24 =>
                    F15_j1 k3 v2 v1 v4 v5 v24))
              else
                ((appL 1 v6 [false]).bind fun v25 =>
                  F15_j1 k3 v2 v1 v4 v5 v25))))))
    else
      some (v6))
end

def F15 (k : Nat) (v1 : (List T75)) (v2 : (List Bool)) : Option ((List Bool)) :=
  ((F55 k v1).bind fun v3 =>
    (bif (v3 != 0) then
      some ([])
    else
      F15_l0 k v2 v1 0 0 []))

theorem F15_ok (k : Nat) : ∀ (v1 : (List T75)) (v2 : (List Bool)) (r1 : (List Bool)), F15 k v1 v2 = some (r1) → Fn prog 15 [(.sl (l75 v1)), (.sl (l4 v2))] [] (.sl (l4 r1)) [] := by
  intro v1 v2 r1 h
  rw [F15] at h
  refine Fn_bodyK hT Go.Proofs.Try.func15 (c := Go.Proofs.Try.f15.body.getD .skip) (by kernel_rfl) (by kernel_rfl) (by kernel_rfl) ?_
  refine zs hT [0, 1] [(0, (.sl (l75 v1))), (1, (.sl (l4 v2)))] ?_
  refine AW_seq ?_
  refine AW_seq ?_
  obtain ⟨v3, h1, h⟩ := bsm h
  try dsimp only at h
  refine AW_reg ?_
  refine zm hT 1 [0, 1, 9] [(0, (.sl (l75 v1))), (1, (.sl (l4 v2))), (9, (.sl (l75 v1)))] ?_
  refine zO (jP Go.Proofs.Try.func55 (F55_ok k v1 v3 h1)) ?_
  refine ze hT 1 [0, 1, 11] [(0, (.sl (l75 v1))), (1, (.sl (l4 v2))), (11, (.bool (v3 != 0)))] ?_
  refine AE_seqN ?_
  rcases bif_split h with ⟨h2, h⟩ | ⟨h2, h⟩
  · refine zT h2 ?_
    refine zs hT [4] [(4, .nil)] ?_
    refine AE_ret ?_
    refine AE_seqR ?_
    refine zK [4] [(4, .nil)] ?_
    refine AE_weak (env' := [(4, (.sl (l4 [])))]) (Sub.cons (by have e : aget [(4, .nil)] 4 = .nil := (by kernel_rfl); rw [e]; exact Weak.nil) Sub.nil) ?_
    simp only [Option.some.injEq] at h
    subst h
    exact zEnd
  · refine zN h2 ?_
    refine AE_skip ?_
    refine AE_seqN ?_
    refine zs hT [0, 1, 5] [(0, (.sl (l75 v1))), (1, (.sl (l4 v2))), (5, .nil)] ?_
    refine zs hT [0, 1, 5, 6] [(0, (.sl (l75 v1))), (1, (.sl (l4 v2))), (5, .nil), (6, (aI 0))] ?_
    refine AW_seq ?_
    refine zs hT [1, 5, 6, 12, 13, 14] [(1, (.sl (l4 v2))), (5, .nil), (6, (aI 0)), (12, (.sl (l75 v1))), (13, (aI ((l75 v1).length : Int))), (14, (aI 0))] ?_
    refine AW_block ?_
    refine zKw [1, 5, 6, 12, 13, 14] [(1, (.sl (l4 v2))), (5, .nil), (6, (aI 0)), (12, (.sl (l75 v1))), (13, (aI ((l75 v1).length : Int))), (14, (aI 0))] ?_
    refine AW_gh (Gh.row false 4 1 (xs := l4 []) rfl (by kernel_rfl) (L' := [.row false 4 1 (l4 [])]) (by kernel_rfl)) ?_
    refine AW_weak (env' := [(1, (.sl (l4 v2))), (5, (.gr 0 (l4 []).length)), (6, (aI 0)), (12, (.sl (l75 v1))), (13, (aI ((l75 v1).length : Int))), (14, (aI 0))]) (Sub.keep (by kernel_rfl) (Sub.cons (by have e : aget [(1, (.sl (l4 v2))), (5, .nil), (6, (aI 0)), (12, (.sl (l75 v1))), (13, (aI ((l75 v1).length : Int))), (14, (aI 0))] 5 = .nil := (by kernel_rfl); rw [e]; exact (Weak.void (mu := false) (e := 4) (k := 1) (xs := l4 []) (by kernel_rfl) rfl rfl)) (Sub.keep (by kernel_rfl) (Sub.keep (by kernel_rfl) (Sub.keep (by kernel_rfl) (Sub.keep (by kernel_rfl) Sub.nil)))))) ?_
    refine AW_loop (fun n env L => n ≤ k ∧ ∃ (v4 : Int) (v5 : Int) (v6 : (List Bool)), env = [(1, (.sl (l4 v2))), (5, (.gr 0 (l4 v6).length)), (6, (aI v4)), (12, (.sl (l75 v1))), (13, (aI ((l75 v1).length : Int))), (14, (aI v5))] ∧ L = [.row false 4 1 (l4 v6)] ∧ F15_l0 n v2 v1 v4 v5 v6 = some (r1)) k ⟨Nat.le_refl _, 0, 0, [], rfl, rfl, h⟩ ?_
    rintro n _ _ ⟨hn, v4, v5, v6, rfl, rfl, h⟩
    cases n with
    | zero => rw [F15_l0] at h; cases h
    | succ k3 =>
      rw [F15_l0] at h
      refine zs hT [1, 5, 6, 12, 13, 14, 15] [(1, (.sl (l4 v2))), (5, (.gr 0 (l4 v6).length)), (6, (aI v4)), (12, (.sl (l75 v1))), (13, (aI ((l75 v1).length : Int))), (14, (aI v5)), (15, (.bool (decide (v5 < ((l75 v1).length : Int)))))] ?_
      refine AW_seq ?_
      rcases bif_split h with ⟨h5, h⟩ | ⟨h5, h⟩
      · refine zT h5 ?_
        refine AE_skip ?_
        refine AE_seqN ?_
        refine AW_join (fun env L => ∃ (v7 : Int) (v8 : Int) (v9 : (List Bool)), env = [(1, (.sl (l4 v2))), (5, (.gr 0 (l4 v9).length)), (6, (aI v7)), (12, (.sl (l75 v1))), (13, (aI ((l75 v1).length : Int))), (14, (aI v8))] ∧ L = [.row false 4 1 (l4 v9)] ∧ ∃ n, n ≤ k3 ∧ F15_j1 n v2 v1 v7 v8 v9 = some (r1)) ?_ ?_
        · refine AW_block ?_
          refine AW_seq ?_
          obtain ⟨⟨v10, v11⟩, h6, h⟩ := bsm h
          try dsimp only at h
          refine AW_reg ?_
          refine zO (jX hT 2 (i75 h6)) ?_
          refine zE hT 3 [1, 5, 6, 8, 12, 13, 14] [(1, (.sl (l4 v2))), (5, (.gr 0 (l4 v6).length)), (6, (aI v4)), (8, (.ptr 1 0)), (12, (.sl (l75 v1))), (13, (aI ((l75 v1).length : Int))), (14, (aI v5))] [.row false 4 1 (l4 v6), .cells [(aI v10), (aI v11)]] ?_
          refine AE_seqN ?_
          refine AW_seq ?_
          refine AW_seq ?_
          obtain ⟨⟨v12, v13⟩, h7, h⟩ := bsm h
          try dsimp only at h
          refine AW_drx hmix [⟨(.agg [(aI v10), (aI v11)]), [], 0, 0, false⟩, ⟨(.agg [(aI v12), (aI v13)]), [], 0, 0, false⟩, ⟨(.bool ((v10 == v12) && ((v11 == v13) && true))), [0, 1], 0, 0, false⟩] [] (fun _ => [.row false 4 1 (l4 v6), .cells [(aI v10), (aI v11)]]) [1, 5, 6, 8, 12, 13, 14, 20] [(1, (.sl (l4 v2))), (5, (.gr 0 (l4 v6).length)), (6, (aI v4)), (8, (.ptr 1 0)), (12, (.sl (l75 v1))), (13, (aI ((l75 v1).length : Int))), (14, (aI v5)), (20, (.bool ((v10 == v12) && ((v11 == v13) && true))))] [.row false 4 1 (l4 v6), .cells [(aI v10), (aI v11)]] (by kernel_rfl) rfl rfl (by kernel_rfl) ?_ ?_
          · refine SA_plain hT 1 (by kernel_rfl) ?_
            refine SA_tell (v := (.agg [(aI v12), (aI v13)])) (by kernel_rfl) (by kernel_rfl) (by kernel_rfl) (fun L => (jP Go.Proofs.Try.func45 (F45_ok k3  v12 v13 h7))) ?_
            refine SA_tell (v := (.bool ((v10 == v12) && ((v11 == v13) && true)))) (by kernel_rfl) (by kernel_rfl) (by kernel_rfl) (fun L => (OpJ_eqE hT (t := 76) (x := [(aI v10), (aI v11)]) (y := [(aI v12), (aI v13)]) false (by kernel_rfl) flat76 (by kernel_rfl))) ?_
            exact SA_end (by kernel_rfl)
          refine AE_seqN ?_
          rcases bif_split h with ⟨h8, h⟩ | ⟨h8, h⟩
          · refine zT h8 ?_
            refine AW_join (fun env L => ∃ (v14 : Int) (v15 : Int) (v16 : Int) (v17 : Int) (v18 : (List Bool)), env = [(1, (.sl (l4 v2))), (5, (.gr 1 (l4 v18).length)), (6, (aI v14)), (12, (.sl (l75 v1))), (13, (aI ((l75 v1).length : Int))), (14, (aI v15))] ∧ L = [.cells [(aI v16), (aI v17)], .row false 4 1 (l4 v18)] ∧ ∃ n, n ≤ k3 ∧ F15_j2 n v2 v1 v14 v15 v18 = some (r1)) ?_ ?_
            · rcases bif_split h with ⟨h9, h⟩ | ⟨h9, h⟩
              · obtain ⟨v19, h10, h⟩ := bsm h
                try dsimp only at h
                obtain ⟨v20, h11, h⟩ := bsm h
                try dsimp only at h
                refine AW_reg ?_
                refine zm hT 5 [1, 5, 6, 12, 13, 14, 21, 25] [(1, (.sl (l4 v2))), (5, (.gr 0 (l4 v6).length)), (6, (aI v4)), (12, (.sl (l75 v1))), (13, (aI ((l75 v1).length : Int))), (14, (aI v5)), (21, (.gr 0 (l4 v6).length)), (25, (.bool (decide (v4 < ((l4 v2).length : Int)))))] ?_
                refine zO (jQ hT h9) ?_
                refine zm hT 2 [1, 5, 6, 12, 13, 14, 21, 26, 27, 28] [(1, (.sl (l4 v2))), (5, (.gr 0 (l4 v6).length)), (6, (aI v4)), (12, (.sl (l75 v1))), (13, (aI ((l75 v1).length : Int))), (14, (aI v5)), (21, (.gr 0 (l4 v6).length)), (26, (.bool true)), (27, (.sl (l4 v2))), (28, (aI v4))] ?_
                refine zO (jX hT 1 (i4 h10)) ?_
                refine zm hT 2 [1, 5, 6, 12, 13, 14, 21, 31] [(1, (.sl (l4 v2))), (5, (.gr 0 (l4 v6).length)), (6, (aI v4)), (12, (.sl (l75 v1))), (13, (aI ((l75 v1).length : Int))), (14, (aI v5)), (21, (.gr 0 (l4 v6).length)), (31, (.bool v19))] ?_
                refine zO (jL hT 4 1 [(.bool v19)] 2) ?_
                refine zO (jA hT l4_map e4_k e4_one [.row false 4 1 (l4 v20), .cells [(aI v10), (aI v11)]] false 4 (.gr 0 (l4 v6).length) (.sl (l4 [v19])) 0 (l4 v6).length Weak.refl rfl Weak.refl h11) ?_
                refine ze hT 1 [1, 5, 6, 12, 13, 14] [(1, (.sl (l4 v2))), (5, (.gr 0 (l4 v20).length)), (6, (aI v4)), (12, (.sl (l75 v1))), (13, (aI ((l75 v1).length : Int))), (14, (aI v5))] ?_
                refine zK [1, 5, 6, 12, 13, 14] [(1, (.sl (l4 v2))), (5, (.gr 0 (l4 v20).length)), (6, (aI v4)), (12, (.sl (l75 v1))), (13, (aI ((l75 v1).length : Int))), (14, (aI v5))] ?_
                refine AE_perm [1, 0] (env' := [(1, (.sl (l4 v2))), (5, (.gr 1 (l4 v20).length)), (6, (aI v4)), (12, (.sl (l75 v1))), (13, (aI ((l75 v1).length : Int))), (14, (aI v5))]) (L' := [.cells [(aI v10), (aI v11)], .row false 4 1 (l4 v20)]) rfl rfl (by decide) (by decide) (by kernel_rfl) ⟨(by simp [AV.ren, AV.rens, AObj.ren, pname]), (by simp [AV.ren, AV.rens, AObj.ren, pname]), trivial⟩ (by simp [AV.low, AV.lows, AObj.low]) (by simp [AV.ren, AV.rens, AObj.ren, pname]) (by simp [AV.low, AV.lows]) ?_
                exact AE_done ⟨v4, v5, v10, v11, v20, rfl, rfl, k3, by omega, h⟩
              · obtain ⟨v21, h12, h⟩ := bsm h
                try dsimp only at h
                refine AW_reg ?_
                refine zm hT 5 [1, 5, 6, 12, 13, 14, 21, 25] [(1, (.sl (l4 v2))), (5, (.gr 0 (l4 v6).length)), (6, (aI v4)), (12, (.sl (l75 v1))), (13, (aI ((l75 v1).length : Int))), (14, (aI v5)), (21, (.gr 0 (l4 v6).length)), (25, (.bool (decide (v4 < ((l4 v2).length : Int)))))] ?_
                refine zO (jQ hT h9) ?_
                refine zm hT 5 [1, 5, 6, 12, 13, 14, 21, 31] [(1, (.sl (l4 v2))), (5, (.gr 0 (l4 v6).length)), (6, (aI v4)), (12, (.sl (l75 v1))), (13, (aI ((l75 v1).length : Int))), (14, (aI v5)), (21, (.gr 0 (l4 v6).length)), (31, (.bool false))] ?_
                refine zO (jL hT 4 1 [(.bool false)] 2) ?_
                refine zO (jA hT l4_map e4_k e4_one [.row false 4 1 (l4 v21), .cells [(aI v10), (aI v11)]] false 4 (.gr 0 (l4 v6).length) (.sl (l4 [false])) 0 (l4 v6).length Weak.refl rfl Weak.refl h12) ?_
                refine ze hT 1 [1, 5, 6, 12, 13, 14] [(1, (.sl (l4 v2))), (5, (.gr 0 (l4 v21).length)), (6, (aI v4)), (12, (.sl (l75 v1))), (13, (aI ((l75 v1).length : Int))), (14, (aI v5))] ?_
                refine zK [1, 5, 6, 12, 13, 14] [(1, (.sl (l4 v2))), (5, (.gr 0 (l4 v21).length)), (6, (aI v4)), (12, (.sl (l75 v1))), (13, (aI ((l75 v1).length : Int))), (14, (aI v5))] ?_
                refine AE_perm [1, 0] (env' := [(1, (.sl (l4 v2))), (5, (.gr 1 (l4 v21).length)), (6, (aI v4)), (12, (.sl (l75 v1))), (13, (aI ((l75 v1).length : Int))), (14, (aI v5))]) (L' := [.cells [(aI v10), (aI v11)], .row false 4 1 (l4 v21)]) rfl rfl (by decide) (by decide) (by kernel_rfl) ⟨(by simp [AV.ren, AV.rens, AObj.ren, pname]), (by simp [AV.ren, AV.rens, AObj.ren, pname]), trivial⟩ (by simp [AV.low, AV.lows, AObj.low]) (by simp [AV.ren, AV.rens, AObj.ren, pname]) (by simp [AV.low, AV.lows]) ?_
                exact AE_done ⟨v4, v5, v10, v11, v21, rfl, rfl, k3, by omega, h⟩
            · rintro _ _ ⟨v14, v15, v16, v17, v18, rfl, rfl, n, hn, h⟩
              obtain _ | k13 := n
              · rw [F15_j2] at h; cases h
              rw [F15_j2] at h
              refine zs hT [1, 5, 6, 12, 13, 14] [(1, (.sl (l4 v2))), (5, (.gr 1 (l4 v18).length)), (6, (aI (IntKind.wrap .i64 (v14 + 1)))), (12, (.sl (l75 v1))), (13, (aI ((l75 v1).length : Int))), (14, (aI v15))] ?_
              refine AE_exit ?_
              refine AE_seqX ?_
              refine AE_blkH ?_
              refine zK [1, 5, 6, 12, 13, 14] [(1, (.sl (l4 v2))), (5, (.gr 1 (l4 v18).length)), (6, (aI (IntKind.wrap .i64 (v14 + 1)))), (12, (.sl (l75 v1))), (13, (aI ((l75 v1).length : Int))), (14, (aI v15))] ?_
              refine AE_perm [1, 0] (env' := [(1, (.sl (l4 v2))), (5, (.gr 0 (l4 v18).length)), (6, (aI (IntKind.wrap .i64 (v14 + 1)))), (12, (.sl (l75 v1))), (13, (aI ((l75 v1).length : Int))), (14, (aI v15))]) (L' := [.row false 4 1 (l4 v18), .cells [(aI v16), (aI v17)]]) rfl rfl (by decide) (by decide) (by kernel_rfl) ⟨(by simp [AV.ren, AV.rens, AObj.ren, pname]), (by simp [AV.ren, AV.rens, AObj.ren, pname]), trivial⟩ (by simp [AV.low, AV.lows, AObj.low]) (by simp [AV.ren, AV.rens, AObj.ren, pname]) (by simp [AV.low, AV.lows]) ?_
              refine zD 1 [.row false 4 1 (l4 v18)] ?_
              exact AE_done ⟨(IntKind.wrap .i64 (v14 + 1)), v15, v18, rfl, rfl, k13, by omega, h⟩
          · refine zN h8 ?_
            refine AE_skip ?_
            refine AE_seqN ?_
            obtain ⟨v22, h15, h⟩ := bsm h
            try dsimp only at h
            rcases bif_split h with ⟨h16, h⟩ | ⟨h16, h⟩
            · obtain ⟨v23, h17, h⟩ := bsm h
              try dsimp only at h
              obtain ⟨v24, h18, h⟩ := bsm h
              try dsimp only at h
              refine AW_reg ?_
              refine zm hT 4 [1, 5, 6, 8, 12, 13, 14, 36, 37, 39] [(1, (.sl (l4 v2))), (5, (.gr 0 (l4 v6).length)), (6, (aI v4)), (8, (.ptr 1 0)), (12, (.sl (l75 v1))), (13, (aI ((l75 v1).length : Int))), (14, (aI v5)), (36, (.gr 0 (l4 v6).length)), (37, (.gr 0 (l4 v6).length)), (39, (aI v10))] ?_
              refine zO (jC Go.Proofs.Try.func17 (Fn_args (args := [(.gr 0 (l4 v6).length), (aI v10)]) (args' := [(.sl (l4 v6)), (aI v10)]) (fP (F17_ok k3 v6 v10 v22 h15)) ⟨(Weak.view (e := 4) (k := 1) (xs := l4 v6) (by kernel_rfl) rfl), Weak.refl, trivial⟩)) ?_
              refine zO (jQ hT h16) ?_
              refine zm hT 3 [1, 5, 6, 12, 13, 14, 36, 41, 42, 44] [(1, (.sl (l4 v2))), (5, (.gr 0 (l4 v6).length)), (6, (aI v4)), (12, (.sl (l75 v1))), (13, (aI ((l75 v1).length : Int))), (14, (aI v5)), (36, (.gr 0 (l4 v6).length)), (41, (.bool true)), (42, (.gr 0 (l4 v6).length)), (44, (aI v11))] ?_
              refine zO (jC Go.Proofs.Try.func17 (Fn_args (args := [(.gr 0 (l4 v6).length), (aI v11)]) (args' := [(.sl (l4 v6)), (aI v11)]) (fP (F17_ok k3 v6 v11 v23 h17)) ⟨(Weak.view (e := 4) (k := 1) (xs := l4 v6) (by kernel_rfl) rfl), Weak.refl, trivial⟩)) ?_
              refine zm hT 1 [1, 5, 6, 12, 13, 14, 36, 46] [(1, (.sl (l4 v2))), (5, (.gr 0 (l4 v6).length)), (6, (aI v4)), (12, (.sl (l75 v1))), (13, (aI ((l75 v1).length : Int))), (14, (aI v5)), (36, (.gr 0 (l4 v6).length)), (46, (.bool v23))] ?_
              refine zO (jL hT 4 1 [(.bool v23)] 2) ?_
              refine zO (jA hT l4_map e4_k e4_one [.row false 4 1 (l4 v24), .cells [(aI v10), (aI v11)]] false 4 (.gr 0 (l4 v6).length) (.sl (l4 [v23])) 0 (l4 v6).length Weak.refl rfl Weak.refl h18) ?_
              refine ze hT 1 [1, 5, 6, 12, 13, 14] [(1, (.sl (l4 v2))), (5, (.gr 0 (l4 v24).length)), (6, (aI v4)), (12, (.sl (l75 v1))), (13, (aI ((l75 v1).length : Int))), (14, (aI v5))] ?_
              refine AE_blkN ?_
              refine zK [1, 5, 6, 12, 13, 14] [(1, (.sl (l4 v2))), (5, (.gr 0 (l4 v24).length)), (6, (aI v4)), (12, (.sl (l75 v1))), (13, (aI ((l75 v1).length : Int))), (14, (aI v5))] ?_
              refine zD 1 [.row false 4 1 (l4 v24)] ?_
              exact AE_done ⟨v4, v5, v24, rfl, rfl, k3, by omega, h⟩
            · obtain ⟨v25, h19, h⟩ := bsm h
              try dsimp only at h
              refine AW_reg ?_
              refine zm hT 4 [1, 5, 6, 8, 12, 13, 14, 36, 37, 39] [(1, (.sl (l4 v2))), (5, (.gr 0 (l4 v6).length)), (6, (aI v4)), (8, (.ptr 1 0)), (12, (.sl (l75 v1))), (13, (aI ((l75 v1).length : Int))), (14, (aI v5)), (36, (.gr 0 (l4 v6).length)), (37, (.gr 0 (l4 v6).length)), (39, (aI v10))] ?_
              refine zO (jC Go.Proofs.Try.func17 (Fn_args (args := [(.gr 0 (l4 v6).length), (aI v10)]) (args' := [(.sl (l4 v6)), (aI v10)]) (fP (F17_ok k3 v6 v10 v22 h15)) ⟨(Weak.view (e := 4) (k := 1) (xs := l4 v6) (by kernel_rfl) rfl), Weak.refl, trivial⟩)) ?_
              refine zO (jQ hT h16) ?_
              refine zm hT 5 [1, 5, 6, 12, 13, 14, 36, 46] [(1, (.sl (l4 v2))), (5, (.gr 0 (l4 v6).length)), (6, (aI v4)), (12, (.sl (l75 v1))), (13, (aI ((l75 v1).length : Int))), (14, (aI v5)), (36, (.gr 0 (l4 v6).length)), (46, (.bool false))] ?_
              refine zO (jL hT 4 1 [(.bool false)] 2) ?_
              refine zO (jA hT l4_map e4_k e4_one [.row false 4 1 (l4 v25), .cells [(aI v10), (aI v11)]] false 4 (.gr 0 (l4 v6).length) (.sl (l4 [false])) 0 (l4 v6).length Weak.refl rfl Weak.refl h19) ?_
              refine ze hT 1 [1, 5, 6, 12, 13, 14] [(1, (.sl (l4 v2))), (5, (.gr 0 (l4 v25).length)), (6, (aI v4)), (12, (.sl (l75 v1))), (13, (aI ((l75 v1).length : Int))), (14, (aI v5))] ?_
              refine AE_blkN ?_
              refine zK [1, 5, 6, 12, 13, 14] [(1, (.sl (l4 v2))), (5, (.gr 0 (l4 v25).length)), (6, (aI v4)), (12, (.sl (l75 v1))), (13, (aI ((l75 v1).length : Int))), (14, (aI v5))] ?_
              refine zD 1 [.row false 4 1 (l4 v25)] ?_
              exact AE_done ⟨v4, v5, v25, rfl, rfl, k3, by omega, h⟩
        · rintro _ _ ⟨v7, v8, v9, rfl, rfl, n, hn, h⟩
          obtain _ | k20 := n
          · rw [F15_j1] at h; cases h
          rw [F15_j1] at h
          refine zr hT [1, 5, 6, 12, 13, 14] [(1, (.sl (l4 v2))), (5, (.gr 0 (l4 v9).length)), (6, (aI v7)), (12, (.sl (l75 v1))), (13, (aI ((l75 v1).length : Int))), (14, (aI (IntKind.wrap .i64 (v8 + 1))))] ?_
          refine zK [1, 5, 6, 12, 13, 14] [(1, (.sl (l4 v2))), (5, (.gr 0 (l4 v9).length)), (6, (aI v7)), (12, (.sl (l75 v1))), (13, (aI ((l75 v1).length : Int))), (14, (aI (IntKind.wrap .i64 (v8 + 1))))] ?_
          exact AE_done ⟨k20, by omega, by omega, v7, (IntKind.wrap .i64 (v8 + 1)), v9, rfl, rfl, h⟩
      · refine zN h5 ?_
        refine AE_exit ?_
        refine AE_seqX ?_
        refine AE_seqX ?_
        refine AE_blkH ?_
        refine AE_seqN ?_
        refine zs hT [4] [(4, (.gr 0 (l4 v6).length))] ?_
        refine AE_ret ?_
        refine zK [4] [(4, (.gr 0 (l4 v6).length))] ?_
        refine AE_weak (env' := [(4, (.sl (l4 v6)))]) (Sub.cons (by have e : aget [(4, (.gr 0 (l4 v6).length))] 4 = (.gr 0 (l4 v6).length) := (by kernel_rfl); rw [e]; exact (Weak.view (e := 4) (k := 1) (xs := l4 v6) (by kernel_rfl) rfl)) Sub.nil) ?_
        simp only [Option.some.injEq] at h
        subst h
        exact zEnd

def F56 (k : Nat) (v1 : List (T75)) : Option (List (T75)) := appL 16 [] v1
theorem F56_ok (k : Nat) : ∀ (v1 : List (T75)) (r1 : List (T75)), F56 k v1 = some (r1) → Fn prog 56 [(.sl (l75 v1))] [] (.sl (l75 r1)) [] := by
  intro v1 r1 h
  rw [F56] at h
  refine Fn_bodyK hT Go.Proofs.Try.func56 (c := Go.Proofs.Try.f56.body.getD .skip) (by kernel_rfl) (by kernel_rfl) (by kernel_rfl) ?_
  refine zs hT [0] [(0, (.sl (l75 v1)))] ?_
  refine AW_seq ?_
  refine AW_seq ?_
  refine AW_reg ?_
  refine zm hT 1 [0, 3] [(0, (.sl (l75 v1))), (3, (.sl (l75 v1)))] ?_
  refine zNil (t := 37) (e := 76) (xs := l75 v1) hT (by kernel_rfl) (by kernel_rfl) (by kernel_rfl) (by kernel_rfl) ?_ fun hx => ?_
  · refine zF ?_
    refine zK [0, 4] [(0, (.sl (l75 v1))), (4, (.bool false))] ?_
    refine AE_seqN ?_
    refine zN (q := false) rfl ?_
    refine AE_skip ?_
    refine AE_seqN ?_
    refine AW_seq ?_
    refine AW_reg ?_
    refine zO (OpJ_builtRow hT (e := 76) (k := 2) (xs := l75 []) false 0 (by kernel_rfl) rfl ⟨_, _, _, rfl⟩) ?_
    refine zm hT 1 [5, 6] [(5, (.gr 0 (l75 []).length)), (6, (.sl (l75 v1)))] ?_
    refine zO (jA hT l75_map e75_k e75_one [.row false 76 2 (l75 r1)] false 76 (.gr 0 (l75 []).length) (.sl (l75 v1)) 0 (l75 []).length Weak.refl rfl Weak.refl h) ?_
    refine ze hT 1 [2] [(2, (.gr 0 (l75 r1).length))] ?_
    refine AE_seqN ?_
    refine AE_ret ?_
    refine AE_weak (env' := [(2, (.sl (l75 r1)))]) (Sub.cons (by have e : aget [(2, (.gr 0 (l75 r1).length))] 2 = (.gr 0 (l75 r1).length) := (by kernel_rfl); rw [e]; exact (Weak.view (e := 76) (k := 2) (xs := l75 r1) (by kernel_rfl) rfl)) Sub.nil) ?_
    exact zEnd
  · have hv : v1 = [] := by
      cases v1 with
      | nil => rfl
      | cons a b => simp [l75] at hx
    subst hv
    have hr : r1 = [] := by simpa [appL] using h.symm
    subst hr
    refine zF ?_
    refine zK [0, 4] [(0, (.sl (l75 []))), (4, (.bool true))] ?_
    refine AE_seqN ?_
    refine zT (q := true) rfl ?_
    refine AW_seq ?_
    refine zr hT [2] [(2, .nil)] ?_
    refine AE_seqN ?_
    refine AE_ret ?_
    refine AE_seqR ?_
    refine AE_weak (env' := [(2, (.sl (l75 [])))]) (Sub.cons (by have e : aget [(2, .nil)] 2 = .nil := (by kernel_rfl); rw [e]; exact Weak.nil) Sub.nil) ?_
    exact zEnd

def F16 (k : Nat) (v1 : (List T75)) (v2 : (List (T75 × Int))) : Option ((List T75)) :=
  ((F56 k v1).bind fun v3 =>
    some (v3))

theorem F16_ok (k : Nat) : ∀ (v1 : (List T75)) (v2 : (List (T75 × Int))) (r1 : (List T75)), F16 k v1 v2 = some (r1) → Fn prog 16 [(.ptr 0 0)] [.cells [(.gr 1 (l75 v1).length), (.map 2)], .row false 76 2 (l75 v1), .map (mE e75 e2 v2)] (.sl (l75 r1)) [.cells [(.gr 1 (l75 v1).length), (.map 2)], .row false 76 2 (l75 v1), .map (mE e75 e2 v2)] := by
  intro v1 v2 r1 h
  rw [F16] at h
  refine Fn_bodyK hT Go.Proofs.Try.func16 (c := Go.Proofs.Try.f16.body.getD .skip) (by kernel_rfl) (by kernel_rfl) (by kernel_rfl) ?_
  refine zs hT [0] [(0, (.ptr 0 0))] ?_
  refine AW_seq ?_
  refine zs hT [0, 4] [(0, (.ptr 0 0)), (4, (.bool false))] ?_
  refine zN (q := false) rfl ?_
  refine AE_skip ?_
  refine AE_seqN ?_
  refine AW_seq ?_
  obtain ⟨v3, h1, h⟩ := bsm h
  try dsimp only at h
  refine AW_reg ?_
  refine zm hT 4 [8] [(8, (.gr 1 (l75 v1).length))] ?_
  refine zO (jC Go.Proofs.Try.func56 (Fn_args (args := [(.gr 1 (l75 v1).length)]) (args' := [(.sl (l75 v1))]) (fP (F56_ok k v1 v3 h1)) ⟨(Weak.view (e := 76) (k := 2) (xs := l75 v1) (by kernel_rfl) rfl), trivial⟩)) ?_
  refine ze hT 1 [2] [(2, (.sl (l75 v3)))] ?_
  refine AE_seqN ?_
  refine AE_ret ?_
  refine zK [2] [(2, (.sl (l75 v3)))] ?_
  simp only [Option.some.injEq] at h
  subst h
  exact zEnd

mutual
def F40_j1 : Nat → (List Bool) → (List Int) → Int → Int → Option (Int)
  | 0, _, _, _, _ => none
  | k9 + 1, v1, v2, v5, v6 =>
    F40_l0 k9 v1 v2 v5 (IntKind.wrap .i64 (v6 + 1))
def F40_l0 : Nat → (List Bool) → (List Int) → Int → Int → Option (Int)
  | 0, _, _, _, _ => none
  | k2 + 1, v1, v2, v3, v4 =>
    (bif (decide (v4 < ((l2 v2).length : Int))) then
      ((idx v2 v4).bind fun v7 =>
        ((F17 k2 v1 v7).bind fun v8 =>
          (bif v8 then
            ((sft .shl .i64 1 v4).bind fun v9 =>
              F40_j1 k2 v1 v2 (bits .or .i64 v3 v9) v4)
          else
            F40_j1 k2 v1 v2 v3 v4)))
    else
      some (v3))
end

def F40 (k : Nat) (v1 : (List Bool)) (v2 : (List Int)) : Option (Int) :=
  (bif (decide (((l2 v2).length : Int) > 16)) then
    some (0)
  else
    F40_l0 k v1 v2 0 0)

theorem F40_ok (k : Nat) : ∀ (v1 : (List Bool)) (v2 : (List Int)) (r1 : Int), F40 k v1 v2 = some (r1) → Fn prog 40 [(.sl (l4 v1)), (.sl (l2 v2))] [] (aI r1) [] := by
  intro v1 v2 r1 h
  rw [F40] at h
  refine Fn_bodyK hT Go.Proofs.Try.func40 (c := Go.Proofs.Try.f40.body.getD .skip) (by kernel_rfl) (by kernel_rfl) (by kernel_rfl) ?_
  refine zs hT [0, 1] [(0, (.sl (l4 v1))), (1, (.sl (l2 v2)))] ?_
  refine zs hT [0, 1, 5] [(0, (.sl (l4 v1))), (1, (.sl (l2 v2))), (5, (aI 0))] ?_
  refine AW_seq ?_
  refine zs hT [0, 1, 5, 10] [(0, (.sl (l4 v1))), (1, (.sl (l2 v2))), (5, (aI 0)), (10, (.bool (decide (((l2 v2).length : Int) > 16))))] ?_
  rcases bif_split h with ⟨h1, h⟩ | ⟨h1, h⟩
  · refine zT h1 ?_
    refine zs hT [4] [(4, (aI 0))] ?_
    refine AE_ret ?_
    refine AE_seqR ?_
    refine zK [4] [(4, (aI 0))] ?_
    simp only [Option.some.injEq] at h
    subst h
    exact zEnd
  · refine zN h1 ?_
    refine AE_skip ?_
    refine AE_seqN ?_
    refine AW_seq ?_
    refine zs hT [0, 5, 11, 12, 13] [(0, (.sl (l4 v1))), (5, (aI 0)), (11, (.sl (l2 v2))), (12, (aI ((l2 v2).length : Int))), (13, (aI 0))] ?_
    refine AW_block ?_
    refine zKw [0, 5, 11, 12, 13] [(0, (.sl (l4 v1))), (5, (aI 0)), (11, (.sl (l2 v2))), (12, (aI ((l2 v2).length : Int))), (13, (aI 0))] ?_
    refine AW_loop (fun n env L => n ≤ k ∧ ∃ (v3 : Int) (v4 : Int), env = [(0, (.sl (l4 v1))), (5, (aI v3)), (11, (.sl (l2 v2))), (12, (aI ((l2 v2).length : Int))), (13, (aI v4))] ∧ L = [] ∧ F40_l0 n v1 v2 v3 v4 = some (r1)) k ⟨Nat.le_refl _, 0, 0, rfl, rfl, h⟩ ?_
    rintro n _ _ ⟨hn, v3, v4, rfl, rfl, h⟩
    cases n with
    | zero => rw [F40_l0] at h; cases h
    | succ k2 =>
      rw [F40_l0] at h
      refine zs hT [0, 5, 11, 12, 13, 14] [(0, (.sl (l4 v1))), (5, (aI v3)), (11, (.sl (l2 v2))), (12, (aI ((l2 v2).length : Int))), (13, (aI v4)), (14, (.bool (decide (v4 < ((l2 v2).length : Int)))))] ?_
      refine AW_seq ?_
      rcases bif_split h with ⟨h4, h⟩ | ⟨h4, h⟩
      · refine zT h4 ?_
        refine AE_skip ?_
        refine AE_seqN ?_
        refine AW_join (fun env L => ∃ (v5 : Int) (v6 : Int), env = [(0, (.sl (l4 v1))), (5, (aI v5)), (11, (.sl (l2 v2))), (12, (aI ((l2 v2).length : Int))), (13, (aI v6))] ∧ L = [] ∧ ∃ n, n ≤ k2 ∧ F40_j1 n v1 v2 v5 v6 = some (r1)) ?_ ?_
        · refine AW_block ?_
          refine AW_seq ?_
          obtain ⟨v7, h5, h⟩ := bsm h
          try dsimp only at h
          refine AW_reg ?_
          refine zm hT 1 [0, 5, 11, 12, 13, 15] [(0, (.sl (l4 v1))), (5, (aI v3)), (11, (.sl (l2 v2))), (12, (aI ((l2 v2).length : Int))), (13, (aI v4)), (15, (aI v4))] ?_
          refine zO (jX hT 1 (i2 h5)) ?_
          refine ze hT 3 [0, 5, 6, 7, 11, 12, 13] [(0, (.sl (l4 v1))), (5, (aI v3)), (6, (aI v4)), (7, (aI v7)), (11, (.sl (l2 v2))), (12, (aI ((l2 v2).length : Int))), (13, (aI v4))] ?_
          refine AE_seqN ?_
          refine AW_seq ?_
          obtain ⟨v8, h6, h⟩ := bsm h
          try dsimp only at h
          refine AW_reg ?_
          refine zm hT 2 [0, 5, 6, 11, 12, 13, 18, 19] [(0, (.sl (l4 v1))), (5, (aI v3)), (6, (aI v4)), (11, (.sl (l2 v2))), (12, (aI ((l2 v2).length : Int))), (13, (aI v4)), (18, (.sl (l4 v1))), (19, (aI v7))] ?_
          refine zO (jP Go.Proofs.Try.func17 (F17_ok k2 v1 v7 v8 h6)) ?_
          refine zF ?_
          refine zK [0, 5, 6, 11, 12, 13, 20] [(0, (.sl (l4 v1))), (5, (aI v3)), (6, (aI v4)), (11, (.sl (l2 v2))), (12, (aI ((l2 v2).length : Int))), (13, (aI v4)), (20, (.bool v8))] ?_
          refine AE_seqN ?_
          rcases bif_split h with ⟨h7, h⟩ | ⟨h7, h⟩
          · refine zT h7 ?_
            obtain ⟨v9, h8, h⟩ := bsm h
            try dsimp only at h
            refine AW_reg ?_
            refine zm hT 2 [0, 5, 11, 12, 13, 21, 22] [(0, (.sl (l4 v1))), (5, (aI v3)), (11, (.sl (l2 v2))), (12, (aI ((l2 v2).length : Int))), (13, (aI v4)), (21, (aI v3)), (22, (aI v4))] ?_
            refine zO (jSh hT .shl .i64 .i64 1 v4 h8) ?_
            refine ze hT 2 [0, 5, 11, 12, 13] [(0, (.sl (l4 v1))), (5, (aI (bits .or .i64 v3 v9))), (11, (.sl (l2 v2))), (12, (aI ((l2 v2).length : Int))), (13, (aI v4))] ?_
            refine AE_blkN ?_
            refine zK [0, 5, 11, 12, 13] [(0, (.sl (l4 v1))), (5, (aI (bits .or .i64 v3 v9))), (11, (.sl (l2 v2))), (12, (aI ((l2 v2).length : Int))), (13, (aI v4))] ?_
            exact AE_done ⟨(bits .or .i64 v3 v9), v4, rfl, rfl, k2, by omega, h⟩
          · refine zN h7 ?_
            refine AE_skip ?_
            refine AE_blkN ?_
            refine zK [0, 5, 11, 12, 13] [(0, (.sl (l4 v1))), (5, (aI v3)), (11, (.sl (l2 v2))), (12, (aI ((l2 v2).length : Int))), (13, (aI v4))] ?_
            exact AE_done ⟨v3, v4, rfl, rfl, k2, by omega, h⟩
        · rintro _ _ ⟨v5, v6, rfl, rfl, n, hn, h⟩
          obtain _ | k9 := n
          · rw [F40_j1] at h; cases h
          rw [F40_j1] at h
          refine zr hT [0, 5, 11, 12, 13] [(0, (.sl (l4 v1))), (5, (aI v5)), (11, (.sl (l2 v2))), (12, (aI ((l2 v2).length : Int))), (13, (aI (IntKind.wrap .i64 (v6 + 1))))] ?_
          refine zK [0, 5, 11, 12, 13] [(0, (.sl (l4 v1))), (5, (aI v5)), (11, (.sl (l2 v2))), (12, (aI ((l2 v2).length : Int))), (13, (aI (IntKind.wrap .i64 (v6 + 1))))] ?_
          exact AE_done ⟨k9, by omega, by omega, v5, (IntKind.wrap .i64 (v6 + 1)), rfl, rfl, h⟩
      · refine zN h4 ?_
        refine AE_exit ?_
        refine AE_seqX ?_
        refine AE_seqX ?_
        refine AE_blkH ?_
        refine AE_seqN ?_
        refine zs hT [4] [(4, (aI v3))] ?_
        refine AE_ret ?_
        refine zK [4] [(4, (aI v3))] ?_
        simp only [Option.some.injEq] at h
        subst h
        exact zEnd

def F18 (k : Nat) (v1 : (List Bool)) (v2 : (List Int)) (v3 : Int) (v4 : Int) (v5 : (List T75)) (v6 : (List (T75 × Int))) : Option (Bool) :=
  (bif (((l2 v2).length : Int) == v3) then
    ((F23 k v2 v5 v6).bind fun v7 =>
      (bif (v7 == 0) then
        ((F16 k v5 v6).bind fun v8 =>
          ((F15 k v8 v1).bind fun v9 =>
            ((F40 k v9 v2).bind fun v10 =>
              some ((v10 == v4)))))
      else
        some (false)))
  else
    some (false))

theorem F18_ok (k : Nat) : ∀ (v1 : (List Bool)) (v2 : (List Int)) (v3 : Int) (v4 : Int) (v5 : (List T75)) (v6 : (List (T75 × Int))) (r1 : Bool), F18 k v1 v2 v3 v4 v5 v6 = some (r1) → Fn prog 18 [(.ptr 0 0), (.sl (l4 v1)), (.sl (l2 v2)), (aI v3), (aI v4)] [.cells [(.gr 1 (l75 v5).length), (.map 2)], .row false 76 2 (l75 v5), .map (mE e75 e2 v6)] (.bool r1) [.cells [(.gr 1 (l75 v5).length), (.map 2)], .row false 76 2 (l75 v5), .map (mE e75 e2 v6)] := by
  intro v1 v2 v3 v4 v5 v6 r1 h
  rw [F18] at h
  refine Fn_bodyK hT Go.Proofs.Try.func18 (c := Go.Proofs.Try.f18.body.getD .skip) (by kernel_rfl) (by kernel_rfl) (by kernel_rfl) ?_
  refine zs hT [0, 1, 2, 3, 4] [(0, (.ptr 0 0)), (1, (.sl (l4 v1))), (2, (.sl (l2 v2))), (3, (aI v3)), (4, (aI v4))] ?_
  refine AW_seq ?_
  rcases bif_split h with ⟨h1, h⟩ | ⟨h1, h⟩
  · obtain ⟨v7, h2, h⟩ := bsm h
    try dsimp only at h
    rcases bif_split h with ⟨h3, h⟩ | ⟨h3, h⟩
    · obtain ⟨v8, h4, h⟩ := bsm h
      try dsimp only at h
      obtain ⟨v9, h5, h⟩ := bsm h
      try dsimp only at h
      obtain ⟨v10, h6, h⟩ := bsm h
      try dsimp only at h
      refine AW_reg ?_
      refine zm hT 4 [0, 1, 2, 4, 14] [(0, (.ptr 0 0)), (1, (.sl (l4 v1))), (2, (.sl (l2 v2))), (4, (aI v4)), (14, (.bool (((l2 v2).length : Int) == v3)))] ?_
      refine zO (jQ hT h1) ?_
      refine zm hT 2 [0, 1, 2, 4, 15, 16, 17] [(0, (.ptr 0 0)), (1, (.sl (l4 v1))), (2, (.sl (l2 v2))), (4, (aI v4)), (15, (.bool true)), (16, (.ptr 0 0)), (17, (.sl (l2 v2)))] ?_
      refine zO (jC Go.Proofs.Try.func23 (Fn_in (L := [.cells [(.gr 1 (l75 v5).length), (.map 2)], .row false 76 2 (l75 v5), .map (mE e75 e2 v6)]) (args' := [(.ptr 0 0), (.sl (l2 v2))]) (res' := (aI v7)) (L'' := [.cells [(.gr 1 (l75 v5).length), (.map 2)], .row false 76 2 (l75 v5), .map (mE e75 e2 v6)]) [0, 1, 2] (F23_ok k v2 v5 v6 v7 h2) rfl (by decide) ⟨(by simp [AV.ren, AV.rens, AObj.ren, gname]), (by simp [AV.ren, AV.rens, AObj.ren, gname]), (by simp [AV.ren, AV.rens, AObj.ren, gname]), trivial⟩ (by simp [AV.low, AV.lows, AObj.low]) (by simp [AV.low, AV.lows, AObj.low]) (by kernel_rfl) (by simp [AV.ren, AV.rens, AObj.ren, gname, putBack]) (by simp [AV.ren, AV.rens, AObj.ren, gname, putBack]) (by simp [AV.ren, AV.rens, AObj.ren, gname, putBack]))) ?_
      refine zm hT 2 [0, 1, 2, 4, 20] [(0, (.ptr 0 0)), (1, (.sl (l4 v1))), (2, (.sl (l2 v2))), (4, (aI v4)), (20, (.bool (v7 == 0)))] ?_
      refine zO (jQ hT h3) ?_
      refine zm hT 1 [1, 2, 4, 21, 22] [(1, (.sl (l4 v1))), (2, (.sl (l2 v2))), (4, (aI v4)), (21, (.bool true)), (22, (.ptr 0 0))] ?_
      refine zO (jC Go.Proofs.Try.func16 (Fn_in (L := [.cells [(.gr 1 (l75 v5).length), (.map 2)], .row false 76 2 (l75 v5), .map (mE e75 e2 v6)]) (args' := [(.ptr 0 0)]) (res' := (.sl (l75 v8))) (L'' := [.cells [(.gr 1 (l75 v5).length), (.map 2)], .row false 76 2 (l75 v5), .map (mE e75 e2 v6)]) [0, 1, 2] (F16_ok k v5 v6 v8 h4) rfl (by decide) ⟨(by simp [AV.ren, AV.rens, AObj.ren, gname]), (by simp [AV.ren, AV.rens, AObj.ren, gname]), (by simp [AV.ren, AV.rens, AObj.ren, gname]), trivial⟩ (by simp [AV.low, AV.lows, AObj.low]) (by simp [AV.low, AV.lows, AObj.low]) (by kernel_rfl) (by simp [AV.ren, AV.rens, AObj.ren, gname, putBack]) (by simp [AV.ren, AV.rens, AObj.ren, gname, putBack]) (by simp [AV.ren, AV.rens, AObj.ren, gname, putBack]))) ?_
      refine zm hT 1 [2, 4, 21, 23, 24] [(2, (.sl (l2 v2))), (4, (aI v4)), (21, (.bool true)), (23, (.sl (l75 v8))), (24, (.sl (l4 v1)))] ?_
      refine zO (jP Go.Proofs.Try.func15 (F15_ok k v8 v1 v9 h5)) ?_
      refine zm hT 1 [4, 21, 25, 26] [(4, (aI v4)), (21, (.bool true)), (25, (.sl (l4 v9))), (26, (.sl (l2 v2)))] ?_
      refine zO (jP Go.Proofs.Try.func40 (F40_ok k v9 v2 v10 h6)) ?_
      refine ze hT 4 [10] [(10, (.bool (v10 == v4)))] ?_
      refine AE_seqN ?_
      refine AE_ret ?_
      refine zK [10] [(10, (.bool (v10 == v4)))] ?_
      simp only [Option.some.injEq] at h
      subst h
      exact zEnd
    · refine AW_reg ?_
      refine zm hT 4 [0, 1, 2, 4, 14] [(0, (.ptr 0 0)), (1, (.sl (l4 v1))), (2, (.sl (l2 v2))), (4, (aI v4)), (14, (.bool (((l2 v2).length : Int) == v3)))] ?_
      refine zO (jQ hT h1) ?_
      refine zm hT 2 [0, 1, 2, 4, 15, 16, 17] [(0, (.ptr 0 0)), (1, (.sl (l4 v1))), (2, (.sl (l2 v2))), (4, (aI v4)), (15, (.bool true)), (16, (.ptr 0 0)), (17, (.sl (l2 v2)))] ?_
      refine zO (jC Go.Proofs.Try.func23 (Fn_in (L := [.cells [(.gr 1 (l75 v5).length), (.map 2)], .row false 76 2 (l75 v5), .map (mE e75 e2 v6)]) (args' := [(.ptr 0 0), (.sl (l2 v2))]) (res' := (aI v7)) (L'' := [.cells [(.gr 1 (l75 v5).length), (.map 2)], .row false 76 2 (l75 v5), .map (mE e75 e2 v6)]) [0, 1, 2] (F23_ok k v2 v5 v6 v7 h2) rfl (by decide) ⟨(by simp [AV.ren, AV.rens, AObj.ren, gname]), (by simp [AV.ren, AV.rens, AObj.ren, gname]), (by simp [AV.ren, AV.rens, AObj.ren, gname]), trivial⟩ (by simp [AV.low, AV.lows, AObj.low]) (by simp [AV.low, AV.lows, AObj.low]) (by kernel_rfl) (by simp [AV.ren, AV.rens, AObj.ren, gname, putBack]) (by simp [AV.ren, AV.rens, AObj.ren, gname, putBack]) (by simp [AV.ren, AV.rens, AObj.ren, gname, putBack]))) ?_
      refine zm hT 2 [0, 1, 2, 4, 20] [(0, (.ptr 0 0)), (1, (.sl (l4 v1))), (2, (.sl (l2 v2))), (4, (aI v4)), (20, (.bool (v7 == 0)))] ?_
      refine zO (jQ hT h3) ?_
      refine ze hT 10 [10] [(10, (.bool false))] ?_
      refine AE_seqN ?_
      refine AE_ret ?_
      refine zK [10] [(10, (.bool false))] ?_
      simp only [Option.some.injEq] at h
      subst h
      exact zEnd
  · refine AW_reg ?_
    refine zm hT 4 [0, 1, 2, 4, 14] [(0, (.ptr 0 0)), (1, (.sl (l4 v1))), (2, (.sl (l2 v2))), (4, (aI v4)), (14, (.bool (((l2 v2).length : Int) == v3)))] ?_
    refine zO (jQ hT h1) ?_
    refine ze hT 16 [10] [(10, (.bool false))] ?_
    refine AE_seqN ?_
    refine AE_ret ?_
    refine zK [10] [(10, (.bool false))] ?_
    simp only [Option.some.injEq] at h
    subst h
    exact zEnd

def F25 (k : Nat) (v1 : (List Int)) (v2 : (List Int)) (v3 : (List T75)) (v4 : (List (T75 × Int))) : Option ((List Int) × (List T75) × (List (T75 × Int))) :=
  ((F53 k v1 v2 v3 v4).bind fun v5 =>
    (bif (!v5) then
      some ([], v3, v4)
    else
      ((F62 k v1 v2 0 v3 v4).bind fun ⟨v6, v7, v8, v9⟩ =>
        ((F64 k v6).bind fun v10 =>
          some (v10, v8, v9)))))

theorem F25_ok (k : Nat) : ∀ (v1 : (List Int)) (v2 : (List Int)) (v3 : (List T75)) (v4 : (List (T75 × Int))) (r1 : (List Int)) (r2 : (List T75)) (r3 : (List (T75 × Int))), F25 k v1 v2 v3 v4 = some (r1, r2, r3) → Fn prog 25 [(.ptr 0 0), (.sl (l2 v1)), (.sl (l2 v2))] [.cells [(.gr 1 (l75 v3).length), (.map 2)], .row false 76 2 (l75 v3), .map (mE e75 e2 v4)] (.sl (l2 r1)) [.cells [(.gr 1 (l75 r2).length), (.map 2)], .row false 76 2 (l75 r2), .map (mE e75 e2 r3)] := by
  intro v1 v2 v3 v4 r1 r2 r3 h
  rw [F25] at h
  refine Fn_bodyK hT Go.Proofs.Try.func25 (c := Go.Proofs.Try.f25.body.getD .skip) (by kernel_rfl) (by kernel_rfl) (by kernel_rfl) ?_
  refine zs hT [0, 1, 2] [(0, (.ptr 0 0)), (1, (.sl (l2 v1))), (2, (.sl (l2 v2)))] ?_
  refine AW_seq ?_
  refine AW_seq ?_
  obtain ⟨v5, h1, h⟩ := bsm h
  try dsimp only at h
  refine AW_reg ?_
  refine zm hT 3 [0, 1, 2, 9, 10, 11] [(0, (.ptr 0 0)), (1, (.sl (l2 v1))), (2, (.sl (l2 v2))), (9, (.ptr 0 0)), (10, (.sl (l2 v1))), (11, (.sl (l2 v2)))] ?_
  refine zO (jC Go.Proofs.Try.func53 (Fn_in (L := [.cells [(.gr 1 (l75 v3).length), (.map 2)], .row false 76 2 (l75 v3), .map (mE e75 e2 v4)]) (args' := [(.ptr 0 0), (.sl (l2 v1)), (.sl (l2 v2))]) (res' := (.bool v5)) (L'' := [.cells [(.gr 1 (l75 v3).length), (.map 2)], .row false 76 2 (l75 v3), .map (mE e75 e2 v4)]) [0, 1, 2] (F53_ok k v1 v2 v3 v4 v5 h1) rfl (by decide) ⟨(by simp [AV.ren, AV.rens, AObj.ren, gname]), (by simp [AV.ren, AV.rens, AObj.ren, gname]), (by simp [AV.ren, AV.rens, AObj.ren, gname]), trivial⟩ (by simp [AV.low, AV.lows, AObj.low]) (by simp [AV.low, AV.lows, AObj.low]) (by kernel_rfl) (by simp [AV.ren, AV.rens, AObj.ren, gname, putBack]) (by simp [AV.ren, AV.rens, AObj.ren, gname, putBack]) (by simp [AV.ren, AV.rens, AObj.ren, gname, putBack]))) ?_
  refine ze hT 1 [0, 1, 2, 13] [(0, (.ptr 0 0)), (1, (.sl (l2 v1))), (2, (.sl (l2 v2))), (13, (.bool (!v5)))] ?_
  refine AE_seqN ?_
  rcases bif_split h with ⟨h2, h⟩ | ⟨h2, h⟩
  · refine zT h2 ?_
    refine zs hT [6] [(6, .nil)] ?_
    refine AE_ret ?_
    refine AE_seqR ?_
    refine zK [6] [(6, .nil)] ?_
    refine AE_weak (env' := [(6, (.sl (l2 [])))]) (Sub.cons (by have e : aget [(6, .nil)] 6 = .nil := (by kernel_rfl); rw [e]; exact Weak.nil) Sub.nil) ?_
    simp only [Option.some.injEq, Prod.mk.injEq] at h
    obtain ⟨rfl, rfl, rfl⟩ := h
    exact zEnd
  · refine zN h2 ?_
    refine AE_skip ?_
    refine AE_seqN ?_
    refine AW_seq ?_
    obtain ⟨⟨v6, v7, v8, v9⟩, h3, h⟩ := bsm h
    try dsimp only at h
    refine AW_reg ?_
    refine zm hT 3 [15, 16, 17] [(15, (.ptr 0 0)), (16, (.sl (l2 v1))), (17, (.sl (l2 v2)))] ?_
    refine zO (jC Go.Proofs.Try.func62 (Fn_in (L := [.cells [(.gr 1 (l75 v3).length), (.map 2)], .row false 76 2 (l75 v3), .map (mE e75 e2 v4)]) (args' := [(.ptr 0 0), (.sl (l2 v1)), (.sl (l2 v2)), (aI 0)]) (res' := (.tup [(.sl (l2 v6)), (aI v7)])) (L'' := [.cells [(.gr 1 (l75 v8).length), (.map 2)], .row false 76 2 (l75 v8), .map (mE e75 e2 v9)]) [0, 1, 2] (F62_ok k v1 v2 0 v3 v4 v6 v7 v8 v9 h3) rfl (by decide) ⟨(by simp [AV.ren, AV.rens, AObj.ren, gname]), (by simp [AV.ren, AV.rens, AObj.ren, gname]), (by simp [AV.ren, AV.rens, AObj.ren, gname]), trivial⟩ (by simp [AV.low, AV.lows, AObj.low]) (by simp [AV.low, AV.lows, AObj.low]) (by kernel_rfl) (by simp [AV.ren, AV.rens, AObj.ren, gname, putBack]) (by simp [AV.ren, AV.rens, AObj.ren, gname, putBack]) (by simp [AV.ren, AV.rens, AObj.ren, gname, putBack]))) ?_
    refine ze hT 5 [7] [(7, (.sl (l2 v6)))] ?_
    refine AE_seqN ?_
    refine AW_seq ?_
    obtain ⟨v10, h4, h⟩ := bsm h
    try dsimp only at h
    refine AW_reg ?_
    refine zm hT 1 [21] [(21, (.sl (l2 v6)))] ?_
    refine zO (jP Go.Proofs.Try.func64 (F64_ok k v6 v10 h4)) ?_
    refine ze hT 1 [6] [(6, (.sl (l2 v10)))] ?_
    refine AE_seqN ?_
    refine AE_ret ?_
    refine zK [6] [(6, (.sl (l2 v10)))] ?_
    simp only [Option.some.injEq, Prod.mk.injEq] at h
    obtain ⟨rfl, rfl, rfl⟩ := h
    exact zEnd

def F41 (k : Nat) : Option (Unit) :=
  some ()

theorem F41_ok (k : Nat) : F41 k = some () → Fn prog 41 [] [] (.ptr 0 0) [.cells [.nil, (.map 1)], .map (mE e75 e2 [])] := by
  intro  h
  rw [F41] at h
  refine Fn_bodyK hT Go.Proofs.Try.func41 (c := Go.Proofs.Try.f41.body.getD .skip) (by kernel_rfl) (by kernel_rfl) (by kernel_rfl) ?_
  refine zs hT [] [] ?_
  refine AW_seq ?_
  refine AW_reg ?_
  refine zO (OpJ_makeMap 0 (mE e75 e2 []) rfl rfl rfl) ?_
  refine zE hT 3 [0] [(0, (.ptr 1 0))] [.map (mE e75 e2 []), .cells [.nil, (.map 0)]] ?_
  refine AE_seqN ?_
  refine AE_ret ?_
  refine zK [0] [(0, (.ptr 1 0))] ?_
  refine AE_perm [1, 0] (env' := [(0, (.ptr 0 0))]) (L' := [.cells [.nil, (.map 1)], .map (mE e75 e2 [])]) rfl rfl (by decide) (by decide) (by kernel_rfl) ⟨(by simp [AV.ren, AV.rens, AObj.ren, pname]), (by simp [AV.ren, AV.rens, AObj.ren, pname]), trivial⟩ (by simp [AV.low, AV.lows, AObj.low]) (by simp [AV.ren, AV.rens, AObj.ren, pname]) (by simp [AV.low, AV.lows]) ?_
  cases h
  exact zEnd

def F57_l1 : Nat → Int → Int → Int → (List Int) → Option ((List Int))
  | 0, _, _, _, _ => none
  | k5 + 1, v1, v2, v4, v5 =>
    (bif (decide (v4 < v2)) then
      ((sft .shr .i64 v1 v4).bind fun v6 =>
        ((appL 8 v5 [(bits .and .i64 v6 1)]).bind fun v7 =>
          F57_l1 k5 v1 v2 (IntKind.wrap .i64 (v4 + 1)) v7))
    else
      some (v5))

def F57_j0 (k2 : Nat) (v1 : Int) (v2 : Int) (v3 : Bool) : Option ((List Int)) :=
  (bif v3 then
    some ([])
  else
    F57_l1 k2 v1 v2 0 [])

def F57 (k : Nat) (v1 : Int) (v2 : Int) : Option ((List Int)) :=
  (bif (decide (v2 < 1)) then
    F57_j0 k v1 v2 true
  else
    F57_j0 k v1 v2 (decide (v2 > 16)))

theorem F57_ok (k : Nat) : ∀ (v1 : Int) (v2 : Int) (r1 : (List Int)), F57 k v1 v2 = some (r1) → Fn prog 57 [(aI v1), (aI v2)] [] (.sl (l2 r1)) [] := by
  intro v1 v2 r1 h
  rw [F57] at h
  refine Fn_bodyK hT Go.Proofs.Try.func57 (c := Go.Proofs.Try.f57.body.getD .skip) (by kernel_rfl) (by kernel_rfl) (by kernel_rfl) ?_
  refine zs hT [0, 1] [(0, (aI v1)), (1, (aI v2))] ?_
  refine zs hT [0, 1, 5] [(0, (aI v1)), (1, (aI v2)), (5, .nil)] ?_
  refine AW_seq ?_
  refine AW_join (fun env L => ∃ (v3 : Bool), env = [(0, (aI v1)), (1, (aI v2)), (5, .nil), (12, (.bool v3))] ∧ L = [] ∧ ∃ n, n ≤ k ∧ F57_j0 n v1 v2 v3 = some (r1)) ?_ ?_
  · rcases bif_split h with ⟨h1, h⟩ | ⟨h1, h⟩
    · refine AW_reg ?_
      refine zm hT 2 [0, 1, 5, 8] [(0, (aI v1)), (1, (aI v2)), (5, .nil), (8, (.bool (decide (v2 < 1))))] ?_
      refine zO (jQ hT h1) ?_
      refine ze hT 3 [0, 1, 5, 12] [(0, (aI v1)), (1, (aI v2)), (5, .nil), (12, (.bool true))] ?_
      refine zK [0, 1, 5, 12] [(0, (aI v1)), (1, (aI v2)), (5, .nil), (12, (.bool true))] ?_
      exact AE_done ⟨true, rfl, rfl, k, by omega, h⟩
    · refine AW_reg ?_
      refine zm hT 2 [0, 1, 5, 8] [(0, (aI v1)), (1, (aI v2)), (5, .nil), (8, (.bool (decide (v2 < 1))))] ?_
      refine zO (jQ hT h1) ?_
      refine ze hT 3 [0, 1, 5, 12] [(0, (aI v1)), (1, (aI v2)), (5, .nil), (12, (.bool (decide (v2 > 16))))] ?_
      refine zK [0, 1, 5, 12] [(0, (aI v1)), (1, (aI v2)), (5, .nil), (12, (.bool (decide (v2 > 16))))] ?_
      exact AE_done ⟨(decide (v2 > 16)), rfl, rfl, k, by omega, h⟩
  · rintro _ _ ⟨v3, rfl, rfl, n, hn, h⟩
    obtain ⟨k2, rfl⟩ : ∃ q, q = n := ⟨n, rfl⟩
    rw [F57_j0] at h
    rcases bif_split h with ⟨h4, h⟩ | ⟨h4, h⟩
    · refine zT h4 ?_
      refine zs hT [4] [(4, .nil)] ?_
      refine AE_ret ?_
      refine AE_seqR ?_
      refine zK [4] [(4, .nil)] ?_
      refine AE_weak (env' := [(4, (.sl (l2 [])))]) (Sub.cons (by have e : aget [(4, .nil)] 4 = .nil := (by kernel_rfl); rw [e]; exact Weak.nil) Sub.nil) ?_
      simp only [Option.some.injEq] at h
      subst h
      exact zEnd
    · refine zN h4 ?_
      refine AE_skip ?_
      refine AE_seqN ?_
      refine AW_seq ?_
      refine zs hT [0, 5, 13, 14] [(0, (aI v1)), (5, .nil), (13, (aI v2)), (14, (aI 0))] ?_
      refine AW_block ?_
      refine zKw [0, 5, 13, 14] [(0, (aI v1)), (5, .nil), (13, (aI v2)), (14, (aI 0))] ?_
      refine AW_gh (Gh.row false 3 1 (xs := l2 []) rfl (by kernel_rfl) (L' := [.row false 3 1 (l2 [])]) (by kernel_rfl)) ?_
      refine AW_weak (env' := [(0, (aI v1)), (5, (.gr 0 (l2 []).length)), (13, (aI v2)), (14, (aI 0))]) (Sub.keep (by kernel_rfl) (Sub.cons (by have e : aget [(0, (aI v1)), (5, .nil), (13, (aI v2)), (14, (aI 0))] 5 = .nil := (by kernel_rfl); rw [e]; exact (Weak.void (mu := false) (e := 3) (k := 1) (xs := l2 []) (by kernel_rfl) rfl rfl)) (Sub.keep (by kernel_rfl) (Sub.keep (by kernel_rfl) Sub.nil)))) ?_
      refine AW_loop (fun n env L => n ≤ k2 ∧ ∃ (v4 : Int) (v5 : (List Int)), env = [(0, (aI v1)), (5, (.gr 0 (l2 v5).length)), (13, (aI v2)), (14, (aI v4))] ∧ L = [.row false 3 1 (l2 v5)] ∧ F57_l1 n v1 v2 v4 v5 = some (r1)) k2 ⟨Nat.le_refl _, 0, [], rfl, rfl, h⟩ ?_
      rintro n _ _ ⟨hn, v4, v5, rfl, rfl, h⟩
      cases n with
      | zero => rw [F57_l1] at h; cases h
      | succ k5 =>
        rw [F57_l1] at h
        refine zs hT [0, 5, 13, 14, 15] [(0, (aI v1)), (5, (.gr 0 (l2 v5).length)), (13, (aI v2)), (14, (aI v4)), (15, (.bool (decide (v4 < v2))))] ?_
        refine AW_seq ?_
        rcases bif_split h with ⟨h7, h⟩ | ⟨h7, h⟩
        · refine zT h7 ?_
          refine AE_skip ?_
          refine AE_seqN ?_
          refine AW_seq ?_
          refine AW_block ?_
          refine zs hT [0, 5, 6, 13, 14] [(0, (aI v1)), (5, (.gr 0 (l2 v5).length)), (6, (aI v4)), (13, (aI v2)), (14, (aI v4))] ?_
          obtain ⟨v6, h8, h⟩ := bsm h
          try dsimp only at h
          obtain ⟨v7, h9, h⟩ := bsm h
          try dsimp only at h
          refine AW_reg ?_
          refine zm hT 3 [0, 5, 13, 14, 17, 18, 19] [(0, (aI v1)), (5, (.gr 0 (l2 v5).length)), (13, (aI v2)), (14, (aI v4)), (17, (.gr 0 (l2 v5).length)), (18, (aI v1)), (19, (aI v4))] ?_
          refine zO (jSh hT .shr .i64 .i64 v1 v4 h8) ?_
          refine zm hT 1 [0, 5, 13, 14, 17, 21] [(0, (aI v1)), (5, (.gr 0 (l2 v5).length)), (13, (aI v2)), (14, (aI v4)), (17, (.gr 0 (l2 v5).length)), (21, (aI (bits .and .i64 v6 1)))] ?_
          refine zO (jL hT 3 1 [(aI (bits .and .i64 v6 1))] 1) ?_
          refine zO (jA hT l2_map e2_k e2_one [.row false 3 1 (l2 v7)] false 3 (.gr 0 (l2 v5).length) (.sl (l2 [(bits .and .i64 v6 1)])) 0 (l2 v5).length Weak.refl rfl Weak.refl h9) ?_
          refine ze hT 1 [0, 5, 13, 14] [(0, (aI v1)), (5, (.gr 0 (l2 v7).length)), (13, (aI v2)), (14, (aI v4))] ?_
          refine AE_blkN ?_
          refine AE_seqN ?_
          refine zr hT [0, 5, 13, 14] [(0, (aI v1)), (5, (.gr 0 (l2 v7).length)), (13, (aI v2)), (14, (aI (IntKind.wrap .i64 (v4 + 1))))] ?_
          refine zK [0, 5, 13, 14] [(0, (aI v1)), (5, (.gr 0 (l2 v7).length)), (13, (aI v2)), (14, (aI (IntKind.wrap .i64 (v4 + 1))))] ?_
          exact AE_done ⟨k5, by omega, by omega, (IntKind.wrap .i64 (v4 + 1)), v7, rfl, rfl, h⟩
        · refine zN h7 ?_
          refine AE_exit ?_
          refine AE_seqX ?_
          refine AE_seqX ?_
          refine AE_blkH ?_
          refine AE_seqN ?_
          refine zs hT [4] [(4, (.gr 0 (l2 v5).length))] ?_
          refine AE_ret ?_
          refine zK [4] [(4, (.gr 0 (l2 v5).length))] ?_
          refine AE_weak (env' := [(4, (.sl (l2 v5)))]) (Sub.cons (by have e : aget [(4, (.gr 0 (l2 v5).length))] 4 = (.gr 0 (l2 v5).length) := (by kernel_rfl); rw [e]; exact (Weak.view (e := 3) (k := 1) (xs := l2 v5) (by kernel_rfl) rfl)) Sub.nil) ?_
          simp only [Option.some.injEq] at h
          subst h
          exact zEnd

def F58_l0 : Nat → (List Int) → (List Int) → Int → Option (Bool)
  | 0, _, _, _ => none
  | k2 + 1, v1, v2, v3 =>
    (bif (decide (v3 < ((l2 v1).length : Int))) then
      ((idx v1 v3).bind fun v4 =>
        ((idx v2 v3).bind fun v5 =>
          (bif (v4 != v5) then
            some (false)
          else
            F58_l0 k2 v1 v2 (IntKind.wrap .i64 (v3 + 1)))))
    else
      some (true))

def F58 (k : Nat) (v1 : (List Int)) (v2 : (List Int)) : Option (Bool) :=
  (bif (((l2 v1).length : Int) != ((l2 v2).length : Int)) then
    some (false)
  else
    F58_l0 k v1 v2 0)

theorem F58_ok (k : Nat) : ∀ (v1 : (List Int)) (v2 : (List Int)) (r1 : Bool), F58 k v1 v2 = some (r1) → Fn prog 58 [(.sl (l2 v1)), (.sl (l2 v2))] [] (.bool r1) [] := by
  intro v1 v2 r1 h
  rw [F58] at h
  refine Fn_bodyK hT Go.Proofs.Try.func58 (c := Go.Proofs.Try.f58.body.getD .skip) (by kernel_rfl) (by kernel_rfl) (by kernel_rfl) ?_
  refine zs hT [0, 1] [(0, (.sl (l2 v1))), (1, (.sl (l2 v2)))] ?_
  refine AW_seq ?_
  refine zs hT [0, 1, 10] [(0, (.sl (l2 v1))), (1, (.sl (l2 v2))), (10, (.bool (((l2 v1).length : Int) != ((l2 v2).length : Int))))] ?_
  rcases bif_split h with ⟨h1, h⟩ | ⟨h1, h⟩
  · refine zT h1 ?_
    refine zs hT [4] [(4, (.bool false))] ?_
    refine AE_ret ?_
    refine AE_seqR ?_
    refine zK [4] [(4, (.bool false))] ?_
    simp only [Option.some.injEq] at h
    subst h
    exact zEnd
  · refine zN h1 ?_
    refine AE_skip ?_
    refine AE_seqN ?_
    refine AW_seq ?_
    refine zs hT [0, 1, 5] [(0, (.sl (l2 v1))), (1, (.sl (l2 v2))), (5, (aI 0))] ?_
    refine AW_block ?_
    refine zKw [0, 1, 5] [(0, (.sl (l2 v1))), (1, (.sl (l2 v2))), (5, (aI 0))] ?_
    refine AW_loop (fun n env L => n ≤ k ∧ ∃ (v3 : Int), env = [(0, (.sl (l2 v1))), (1, (.sl (l2 v2))), (5, (aI v3))] ∧ L = [] ∧ F58_l0 n v1 v2 v3 = some (r1)) k ⟨Nat.le_refl _, 0, rfl, rfl, h⟩ ?_
    rintro n _ _ ⟨hn, v3, rfl, rfl, h⟩
    cases n with
    | zero => rw [F58_l0] at h; cases h
    | succ k2 =>
      rw [F58_l0] at h
      refine AW_seq ?_
      refine zs hT [0, 1, 5, 14] [(0, (.sl (l2 v1))), (1, (.sl (l2 v2))), (5, (aI v3)), (14, (.bool (decide (v3 < ((l2 v1).length : Int)))))] ?_
      rcases bif_split h with ⟨h4, h⟩ | ⟨h4, h⟩
      · refine zT h4 ?_
        refine AE_skip ?_
        refine AE_seqN ?_
        refine AW_seq ?_
        refine AW_block ?_
        refine AW_seq ?_
        obtain ⟨v4, h5, h⟩ := bsm h
        try dsimp only at h
        obtain ⟨v5, h6, h⟩ := bsm h
        try dsimp only at h
        refine AW_drx hmix [⟨(.sl (l2 v1)), [], 0, 0, false⟩, ⟨(aI v3), [], 0, 0, false⟩, ⟨(.rp [(aI v4)]), [0, 1], 0, 0, false⟩, ⟨(aI v4), [0, 1, 2], 0, 0, false⟩, ⟨(.sl (l2 v2)), [], 0, 0, false⟩, ⟨(aI v3), [], 0, 0, false⟩, ⟨(.rp [(aI v5)]), [4, 5], 0, 0, false⟩, ⟨(aI v5), [4, 5, 6], 0, 0, false⟩, ⟨(.bool (v4 != v5)), [0, 1, 2, 3, 4, 5, 6, 7], 0, 0, false⟩] [] (fun _ => []) [0, 1, 5, 25] [(0, (.sl (l2 v1))), (1, (.sl (l2 v2))), (5, (aI v3)), (25, (.bool (v4 != v5)))] [] (by kernel_rfl) rfl rfl (by kernel_rfl) ?_ ?_
        · refine SA_plain hT 2 (by kernel_rfl) ?_
          refine SA_tell (v := (.rp [(aI v4)])) (by kernel_rfl) (by kernel_rfl) (by kernel_rfl) (fun L => (jX hT 1 (i2 h5))) ?_
          refine SA_plain hT 3 (by kernel_rfl) ?_
          refine SA_tell (v := (.rp [(aI v5)])) (by kernel_rfl) (by kernel_rfl) (by kernel_rfl) (fun L => (jX hT 1 (i2 h6))) ?_
          refine SA_plain hT 2 (by kernel_rfl) ?_
          exact SA_end (by kernel_rfl)
        refine AE_seqN ?_
        rcases bif_split h with ⟨h7, h⟩ | ⟨h7, h⟩
        · refine zT h7 ?_
          refine zs hT [4] [(4, (.bool false))] ?_
          refine AE_ret ?_
          refine AE_blkR ?_
          refine AE_seqR ?_
          refine AE_seqR ?_
          refine AE_blkR ?_
          refine AE_seqR ?_
          refine zK [4] [(4, (.bool false))] ?_
          simp only [Option.some.injEq] at h
          subst h
          exact zEnd
        · refine zN h7 ?_
          refine AE_skip ?_
          refine AE_blkN ?_
          refine AE_seqN ?_
          refine zr hT [0, 1, 5] [(0, (.sl (l2 v1))), (1, (.sl (l2 v2))), (5, (aI (IntKind.wrap .i64 (v3 + 1))))] ?_
          refine zK [0, 1, 5] [(0, (.sl (l2 v1))), (1, (.sl (l2 v2))), (5, (aI (IntKind.wrap .i64 (v3 + 1))))] ?_
          exact AE_done ⟨k2, by omega, by omega, (IntKind.wrap .i64 (v3 + 1)), rfl, rfl, h⟩
      · refine zN h4 ?_
        refine AE_exit ?_
        refine AE_seqX ?_
        refine AE_seqX ?_
        refine AE_blkH ?_
        refine AE_seqN ?_
        refine zs hT [4] [(4, (.bool true))] ?_
        refine AE_ret ?_
        refine zK [4] [(4, (.bool true))] ?_
        simp only [Option.some.injEq] at h
        subst h
        exact zEnd

def F19 (k : Nat) : Option (Bool) :=
  ((F41 k ).bind fun _ =>
    ((F57 k 3 3).bind fun v1 =>
      ((F57 k 6 3).bind fun v2 =>
        ((F25 k v1 v2 [] []).bind fun ⟨v3, v4, v5⟩ =>
          ((F58 k v3 [1, 0, 0]).bind fun v6 =>
            some (v6))))))

theorem F19_ok (k : Nat) : ∀  (r1 : Bool), F19 k = some (r1) → Fn prog 19 [] [] (.bool r1) [] := by
  intro r1 h
  rw [F19] at h
  refine Fn_bodyK hT Go.Proofs.Try.func19 (c := Go.Proofs.Try.f19.body.getD .skip) (by kernel_rfl) (by kernel_rfl) (by kernel_rfl) ?_
  refine zs hT [] [] ?_
  refine AW_seq ?_
  obtain ⟨_, h1, h⟩ := bsm h
  try dsimp only at h
  refine AW_reg ?_
  refine zO (jC Go.Proofs.Try.func41 (Fn_in (L := []) (args' := []) (res' := (.ptr 0 0)) (L'' := [.cells [.nil, (.map 1)], .map (mE e75 e2 [])]) [] (F41_ok k   h1) rfl (by decide) trivial (by simp [AV.low, AV.lows, AObj.low]) (by simp [AV.low, AV.lows, AObj.low]) (by kernel_rfl) (by simp [AV.ren, AV.rens, AObj.ren, gname, putBack]) (by simp [AV.ren, AV.rens, AObj.ren, gname, putBack]) (by simp [AV.ren, AV.rens, AObj.ren, gname, putBack]))) ?_
  refine ze hT 1 [1] [(1, (.ptr 0 0))] ?_
  refine AE_seqN ?_
  refine AW_seq ?_
  obtain ⟨v1, h2, h⟩ := bsm h
  try dsimp only at h
  obtain ⟨v2, h3, h⟩ := bsm h
  try dsimp only at h
  obtain ⟨⟨v3, v4, v5⟩, h4, h⟩ := bsm h
  try dsimp only at h
  refine AW_reg ?_
  refine zm hT 1 [4] [(4, (.ptr 0 0))] ?_
  refine zO (jP Go.Proofs.Try.func57 (F57_ok k 3 3 v1 h2)) ?_
  refine zO (jP Go.Proofs.Try.func57 (F57_ok k 6 3 v2 h3)) ?_
  refine zO (OpJ_gh (Gh.row false 76 2 (xs := l75 []) rfl (by kernel_rfl) (L' := [.cells [.nil, (.map 1)], .map (mE e75 e2 []), .row false 76 2 (l75 [])]) (by kernel_rfl)) (OpJ_gh (Gh.recell 0 (cs := [.nil, (.map 1)]) (cs' := [(.gr 2 (l75 []).length), (.map 1)]) (by kernel_rfl) ⟨(Weak.void (mu := false) (e := 76) (k := 2) (xs := l75 []) (by kernel_rfl) rfl rfl), Weak.refl, trivial⟩ (by kernel_rfl) (L' := [.cells [(.gr 2 (l75 []).length), (.map 1)], .map (mE e75 e2 []), .row false 76 2 (l75 [])]) (by kernel_rfl)) (jC Go.Proofs.Try.func25 (Fn_in (L := [.cells [(.gr 2 (l75 []).length), (.map 1)], .map (mE e75 e2 []), .row false 76 2 (l75 [])]) (args' := [(.ptr 0 0), (.sl (l2 v1)), (.sl (l2 v2))]) (res' := (.sl (l2 v3))) (L'' := [.cells [(.gr 2 (l75 v4).length), (.map 1)], .map (mE e75 e2 v5), .row false 76 2 (l75 v4)]) [0, 2, 1] (F25_ok k v1 v2 [] [] v3 v4 v5 h4) rfl (by decide) ⟨(by simp [AV.ren, AV.rens, AObj.ren, gname]), (by simp [AV.ren, AV.rens, AObj.ren, gname]), (by simp [AV.ren, AV.rens, AObj.ren, gname]), trivial⟩ (by simp [AV.low, AV.lows, AObj.low]) (by simp [AV.low, AV.lows, AObj.low]) (by kernel_rfl) (by simp [AV.ren, AV.rens, AObj.ren, gname, putBack]) (by simp [AV.ren, AV.rens, AObj.ren, gname, putBack]) (by simp [AV.ren, AV.rens, AObj.ren, gname, putBack]))))) ?_
  refine ze hT 1 [2] [(2, (.sl (l2 v3)))] ?_
  refine AE_seqN ?_
  refine AW_seq ?_
  obtain ⟨v6, h5, h⟩ := bsm h
  try dsimp only at h
  refine AW_reg ?_
  refine zm hT 1 [8] [(8, (.sl (l2 v3)))] ?_
  refine zO (jL hT 3 1 [(aI 1), (aI 0), (aI 0)] 3) ?_
  refine zO (jP Go.Proofs.Try.func58 (F58_ok k v3 [1, 0, 0] v6 h5)) ?_
  refine ze hT 1 [0] [(0, (.bool v6))] ?_
  refine AE_seqN ?_
  refine AE_ret ?_
  refine zK [0] [(0, (.bool v6))] ?_
  simp only [Option.some.injEq] at h
  subst h
  exact zEnd

def F71_l0 : Nat → Int → Int → Int → Option (Int)
  | 0, _, _, _ => none
  | k1 + 1, v2, v3, v4 =>
    (bif (decide (v4 < v2)) then
      F71_l0 k1 v2 (IntKind.wrap .i64 (Int.tdiv v3 2)) (IntKind.wrap .i64 (v4 + 1))
    else
      some ((Int.tmod v3 2)))

def F71 (k : Nat) (v1 : Int) (v2 : Int) : Option (Int) :=
  F71_l0 k v2 v1 0

theorem F71_ok (k : Nat) : ∀ (v1 : Int) (v2 : Int) (r1 : Int), F71 k v1 v2 = some (r1) → Fn prog 71 [(aI v1), (aI v2)] [] (aI r1) [] := by
  intro v1 v2 r1 h
  rw [F71] at h
  refine Fn_bodyK hT Go.Proofs.Try.func71 (c := Go.Proofs.Try.f71.body.getD .skip) (by kernel_rfl) (by kernel_rfl) (by kernel_rfl) ?_
  refine zs hT [0, 1] [(0, (aI v1)), (1, (aI v2))] ?_
  refine AW_seq ?_
  refine zs hT [0, 1, 5] [(0, (aI v1)), (1, (aI v2)), (5, (aI 0))] ?_
  refine AW_block ?_
  refine zKw [0, 1, 5] [(0, (aI v1)), (1, (aI v2)), (5, (aI 0))] ?_
  refine AW_loop (fun n env L => n ≤ k ∧ ∃ (v3 : Int) (v4 : Int), env = [(0, (aI v3)), (1, (aI v2)), (5, (aI v4))] ∧ L = [] ∧ F71_l0 n v2 v3 v4 = some (r1)) k ⟨Nat.le_refl _, v1, 0, rfl, rfl, h⟩ ?_
  rintro n _ _ ⟨hn, v3, v4, rfl, rfl, h⟩
  cases n with
  | zero => rw [F71_l0] at h; cases h
  | succ k1 =>
    rw [F71_l0] at h
    refine AW_seq ?_
    refine zs hT [0, 1, 5, 8] [(0, (aI v3)), (1, (aI v2)), (5, (aI v4)), (8, (.bool (decide (v4 < v2))))] ?_
    rcases bif_split h with ⟨h3, h⟩ | ⟨h3, h⟩
    · refine zT h3 ?_
      refine AE_skip ?_
      refine AE_seqN ?_
      refine AW_seq ?_
      refine AW_block ?_
      refine zr hT [0, 1, 5] [(0, (aI (IntKind.wrap .i64 (Int.tdiv v3 2)))), (1, (aI v2)), (5, (aI v4))] ?_
      refine AE_blkN ?_
      refine AE_seqN ?_
      refine zr hT [0, 1, 5] [(0, (aI (IntKind.wrap .i64 (Int.tdiv v3 2)))), (1, (aI v2)), (5, (aI (IntKind.wrap .i64 (v4 + 1))))] ?_
      refine zK [0, 1, 5] [(0, (aI (IntKind.wrap .i64 (Int.tdiv v3 2)))), (1, (aI v2)), (5, (aI (IntKind.wrap .i64 (v4 + 1))))] ?_
      exact AE_done ⟨k1, by omega, by omega, (IntKind.wrap .i64 (Int.tdiv v3 2)), (IntKind.wrap .i64 (v4 + 1)), rfl, rfl, h⟩
    · refine zN h3 ?_
      refine AE_exit ?_
      refine AE_seqX ?_
      refine AE_seqX ?_
      refine AE_blkH ?_
      refine AE_seqN ?_
      refine zs hT [4] [(4, (aI (Int.tmod v3 2)))] ?_
      refine AE_ret ?_
      refine zK [4] [(4, (aI (Int.tmod v3 2)))] ?_
      simp only [Option.some.injEq] at h
      subst h
      exact zEnd

mutual
def F42_j1 : Nat → Int → Int → Int → (List (T75 × Int)) → (List Bool) → Int → (List T75) → (List Int) → Option ((List Int) × (List Bool) × (List T75))
  | 0, _, _, _, _, _, _, _, _ => none
  | k12 + 1, v1, v2, v3, v6, v11, v12, v13, v14 =>
    F42_l0 k12 v1 v2 v3 v6 v11 (IntKind.wrap .i64 (v12 + 1)) v13 v14
def F42_l0 : Nat → Int → Int → Int → (List (T75 × Int)) → (List Bool) → Int → (List T75) → (List Int) → Option ((List Int) × (List Bool) × (List T75))
  | 0, _, _, _, _, _, _, _, _ => none
  | k1 + 1, v1, v2, v3, v6, v7, v8, v9, v10 =>
    (bif (decide (v8 < v2)) then
      ((F71 k1 v1 v8).bind fun v15 =>
        ((sft .shr .u32 v3 (IntKind.wrap .u64 v8)).bind fun v16 =>
          (bif ((Int.tmod v16 2) == 1) then
            ((appL 8 v10 [v15]).bind fun v17 =>
              F42_j1 k1 v1 v2 v3 v6 v7 v8 v9 v17)
          else
            ((F10 k1 v9 v6).bind fun ⟨v18, v19⟩ =>
              ((appL 8 v10 [v18]).bind fun v20 =>
                ((appL 1 [] v7).bind fun v21 =>
                  ((appL 1 v21 [(v15 == 1)]).bind fun v22 =>
                    F42_j1 k1 v1 v2 v3 v6 v22 v8 v19 v20)))))))
    else
      some (v10, v7, v9))
end

def F42 (k : Nat) (v1 : Int) (v2 : Int) (v3 : Int) (v4 : (List Bool)) (v5 : (List T75)) (v6 : (List (T75 × Int))) : Option ((List Int) × (List Bool) × (List T75)) :=
  F42_l0 k v1 v2 v3 v6 v4 0 v5 []

theorem F42_ok (k : Nat) : ∀ (v1 : Int) (v2 : Int) (v3 : Int) (v4 : (List Bool)) (v5 : (List T75)) (v6 : (List (T75 × Int))) (r1 : (List Int)) (r2 : (List Bool)) (r3 : (List T75)), F42 k v1 v2 v3 v4 v5 v6 = some (r1, r2, r3) → Fn prog 42 [(.ptr 0 0), (aI v1), (aI v2), (.int .u32 v3), (.sl (l4 v4))] [.cells [(.gr 1 (l75 v5).length), (.map 2)], .row false 76 2 (l75 v5), .map (mE e75 e2 v6)] (.tup [(.sl (l2 r1)), (.sl (l4 r2))]) [.cells [(.gr 1 (l75 r3).length), (.map 2)], .row false 76 2 (l75 r3), .map (mE e75 e2 v6)] := by
  intro v1 v2 v3 v4 v5 v6 r1 r2 r3 h
  rw [F42] at h
  refine Fn_bodyK hT Go.Proofs.Try.func42 (c := Go.Proofs.Try.f42.body.getD .skip) (by kernel_rfl) (by kernel_rfl) (by kernel_rfl) ?_
  refine zs hT [0, 1, 2, 3, 4] [(0, (.ptr 0 0)), (1, (aI v1)), (2, (aI v2)), (3, (.int .u32 v3)), (4, (.sl (l4 v4)))] ?_
  refine AW_seq ?_
  refine AW_reg ?_
  refine zO (OpJ_builtRow hT (e := 3) (k := 1) (xs := l2 []) false 3 (by kernel_rfl) rfl ⟨_, _, _, rfl⟩) ?_
  refine ze hT 1 [0, 1, 2, 3, 4, 12] [(0, (.ptr 0 0)), (1, (aI v1)), (2, (aI v2)), (3, (.int .u32 v3)), (4, (.sl (l4 v4))), (12, (.gr 3 (l2 []).length))] ?_
  refine AE_seqN ?_
  refine AW_seq ?_
  refine zs hT [0, 1, 2, 3, 4, 12, 13] [(0, (.ptr 0 0)), (1, (aI v1)), (2, (aI v2)), (3, (.int .u32 v3)), (4, (.sl (l4 v4))), (12, (.gr 3 (l2 []).length)), (13, (aI 0))] ?_
  refine AW_block ?_
  refine zKw [0, 1, 2, 3, 4, 12, 13] [(0, (.ptr 0 0)), (1, (aI v1)), (2, (aI v2)), (3, (.int .u32 v3)), (4, (.sl (l4 v4))), (12, (.gr 3 (l2 []).length)), (13, (aI 0))] ?_
  refine AW_loop (fun n env L => n ≤ k ∧ ∃ (v7 : (List Bool)) (v8 : Int) (v9 : (List T75)) (v10 : (List Int)), env = [(0, (.ptr 0 0)), (1, (aI v1)), (2, (aI v2)), (3, (.int .u32 v3)), (4, (.sl (l4 v7))), (12, (.gr 3 (l2 v10).length)), (13, (aI v8))] ∧ L = [.cells [(.gr 1 (l75 v9).length), (.map 2)], .row false 76 2 (l75 v9), .map (mE e75 e2 v6), .row false 3 1 (l2 v10)] ∧ F42_l0 n v1 v2 v3 v6 v7 v8 v9 v10 = some (r1, r2, r3)) k ⟨Nat.le_refl _, v4, 0, v5, [], rfl, rfl, h⟩ ?_
  rintro n _ _ ⟨hn, v7, v8, v9, v10, rfl, rfl, h⟩
  cases n with
  | zero => rw [F42_l0] at h; cases h
  | succ k1 =>
    rw [F42_l0] at h
    refine AW_seq ?_
    refine zs hT [0, 1, 2, 3, 4, 12, 13, 18] [(0, (.ptr 0 0)), (1, (aI v1)), (2, (aI v2)), (3, (.int .u32 v3)), (4, (.sl (l4 v7))), (12, (.gr 3 (l2 v10).length)), (13, (aI v8)), (18, (.bool (decide (v8 < v2))))] ?_
    rcases bif_split h with ⟨h3, h⟩ | ⟨h3, h⟩
    · refine zT h3 ?_
      refine AE_skip ?_
      refine AE_seqN ?_
      refine AW_join (fun env L => ∃ (v11 : (List Bool)) (v12 : Int) (v13 : (List T75)) (v14 : (List Int)), env = [(0, (.ptr 0 0)), (1, (aI v1)), (2, (aI v2)), (3, (.int .u32 v3)), (4, (.sl (l4 v11))), (12, (.gr 3 (l2 v14).length)), (13, (aI v12))] ∧ L = [.cells [(.gr 1 (l75 v13).length), (.map 2)], .row false 76 2 (l75 v13), .map (mE e75 e2 v6), .row false 3 1 (l2 v14)] ∧ ∃ n, n ≤ k1 ∧ F42_j1 n v1 v2 v3 v6 v11 v12 v13 v14 = some (r1, r2, r3)) ?_ ?_
      · refine AW_block ?_
        refine AW_seq ?_
        obtain ⟨v15, h4, h⟩ := bsm h
        try dsimp only at h
        refine AW_reg ?_
        refine zm hT 2 [0, 1, 2, 3, 4, 12, 13, 21, 22] [(0, (.ptr 0 0)), (1, (aI v1)), (2, (aI v2)), (3, (.int .u32 v3)), (4, (.sl (l4 v7))), (12, (.gr 3 (l2 v10).length)), (13, (aI v8)), (21, (aI v1)), (22, (aI v8))] ?_
        refine zO (jP Go.Proofs.Try.func71 (F71_ok k1 v1 v8 v15 h4)) ?_
        refine ze hT 1 [0, 1, 2, 3, 4, 12, 13, 14] [(0, (.ptr 0 0)), (1, (aI v1)), (2, (aI v2)), (3, (.int .u32 v3)), (4, (.sl (l4 v7))), (12, (.gr 3 (l2 v10).length)), (13, (aI v8)), (14, (aI v15))] ?_
        refine AE_seqN ?_
        refine AW_seq ?_
        refine AW_seq ?_
        obtain ⟨v16, h5, h⟩ := bsm h
        try dsimp only at h
        refine AW_reg ?_
        refine zm hT 3 [0, 1, 2, 3, 4, 12, 13, 14, 24, 26] [(0, (.ptr 0 0)), (1, (aI v1)), (2, (aI v2)), (3, (.int .u32 v3)), (4, (.sl (l4 v7))), (12, (.gr 3 (l2 v10).length)), (13, (aI v8)), (14, (aI v15)), (24, (.int .u32 v3)), (26, (.int .u64 (IntKind.wrap .u64 v8)))] ?_
        refine zO (jSh hT .shr .u32 .u64 v3 (IntKind.wrap .u64 v8) h5) ?_
        refine ze hT 2 [0, 1, 2, 3, 4, 12, 13, 14, 29] [(0, (.ptr 0 0)), (1, (aI v1)), (2, (aI v2)), (3, (.int .u32 v3)), (4, (.sl (l4 v7))), (12, (.gr 3 (l2 v10).length)), (13, (aI v8)), (14, (aI v15)), (29, (.bool ((Int.tmod v16 2) == 1)))] ?_
        refine AE_seqN ?_
        rcases bif_split h with ⟨h6, h⟩ | ⟨h6, h⟩
        · refine zT h6 ?_
          refine AW_seq ?_
          obtain ⟨v17, h7, h⟩ := bsm h
          try dsimp only at h
          refine AW_reg ?_
          refine zm hT 2 [0, 1, 2, 3, 4, 12, 13, 30, 31] [(0, (.ptr 0 0)), (1, (aI v1)), (2, (aI v2)), (3, (.int .u32 v3)), (4, (.sl (l4 v7))), (12, (.gr 3 (l2 v10).length)), (13, (aI v8)), (30, (.gr 3 (l2 v10).length)), (31, (aI v15))] ?_
          refine zO (jL hT 3 1 [(aI v15)] 4) ?_
          refine zO (jA hT l2_map e2_k e2_one [.cells [(.gr 1 (l75 v9).length), (.map 2)], .row false 76 2 (l75 v9), .map (mE e75 e2 v6), .row false 3 1 (l2 v17)] false 3 (.gr 3 (l2 v10).length) (.sl (l2 [v15])) 3 (l2 v10).length Weak.refl rfl Weak.refl h7) ?_
          refine ze hT 1 [0, 1, 2, 3, 4, 12, 13] [(0, (.ptr 0 0)), (1, (aI v1)), (2, (aI v2)), (3, (.int .u32 v3)), (4, (.sl (l4 v7))), (12, (.gr 3 (l2 v17).length)), (13, (aI v8))] ?_
          refine AE_seqN ?_
          refine AE_exit ?_
          refine AE_seqX ?_
          refine AE_blkH ?_
          refine zK [0, 1, 2, 3, 4, 12, 13] [(0, (.ptr 0 0)), (1, (aI v1)), (2, (aI v2)), (3, (.int .u32 v3)), (4, (.sl (l4 v7))), (12, (.gr 3 (l2 v17).length)), (13, (aI v8))] ?_
          exact AE_done ⟨v7, v8, v9, v17, rfl, rfl, k1, by omega, h⟩
        · refine zN h6 ?_
          refine AE_skip ?_
          refine AE_seqN ?_
          refine AW_seq ?_
          obtain ⟨⟨v18, v19⟩, h8, h⟩ := bsm h
          try dsimp only at h
          obtain ⟨v20, h9, h⟩ := bsm h
          try dsimp only at h
          refine AW_reg ?_
          refine zm hT 2 [0, 1, 2, 3, 4, 12, 13, 14, 34, 35] [(0, (.ptr 0 0)), (1, (aI v1)), (2, (aI v2)), (3, (.int .u32 v3)), (4, (.sl (l4 v7))), (12, (.gr 3 (l2 v10).length)), (13, (aI v8)), (14, (aI v15)), (34, (.gr 3 (l2 v10).length)), (35, (.ptr 0 0))] ?_
          refine zO (jC Go.Proofs.Try.func10 (Fn_in (L := [.cells [(.gr 1 (l75 v9).length), (.map 2)], .row false 76 2 (l75 v9), .map (mE e75 e2 v6), .row false 3 1 (l2 v10)]) (args' := [(.ptr 0 0)]) (res' := (aI v18)) (L'' := [.cells [(.gr 1 (l75 v19).length), (.map 2)], .row false 76 2 (l75 v19), .map (mE e75 e2 v6), .row false 3 1 (l2 v10)]) [0, 1, 2] (F10_ok k1 v9 v6 v18 v19 h8) rfl (by decide) ⟨(by simp [AV.ren, AV.rens, AObj.ren, gname]), (by simp [AV.ren, AV.rens, AObj.ren, gname]), (by simp [AV.ren, AV.rens, AObj.ren, gname]), trivial⟩ (by simp [AV.low, AV.lows, AObj.low]) (by simp [AV.low, AV.lows, AObj.low]) (by kernel_rfl) (by simp [AV.ren, AV.rens, AObj.ren, gname, putBack]) (by simp [AV.ren, AV.rens, AObj.ren, gname, putBack]) (by simp [AV.ren, AV.rens, AObj.ren, gname, putBack]))) ?_
          refine zO (jL hT 3 1 [(aI v18)] 4) ?_
          refine zO (jA hT l2_map e2_k e2_one [.cells [(.gr 1 (l75 v19).length), (.map 2)], .row false 76 2 (l75 v19), .map (mE e75 e2 v6), .row false 3 1 (l2 v20)] false 3 (.gr 3 (l2 v10).length) (.sl (l2 [v18])) 3 (l2 v10).length Weak.refl rfl Weak.refl h9) ?_
          refine ze hT 1 [0, 1, 2, 3, 4, 12, 13, 14] [(0, (.ptr 0 0)), (1, (aI v1)), (2, (aI v2)), (3, (.int .u32 v3)), (4, (.sl (l4 v7))), (12, (.gr 3 (l2 v20).length)), (13, (aI v8)), (14, (aI v15))] ?_
          refine AE_seqN ?_
          obtain ⟨v21, h10, h⟩ := bsm h
          try dsimp only at h
          obtain ⟨v22, h11, h⟩ := bsm h
          try dsimp only at h
          refine AW_reg ?_
          refine zO (OpJ_builtRow hT (e := 4) (k := 1) (xs := l4 []) false 4 (by kernel_rfl) rfl ⟨_, _, _, rfl⟩) ?_
          refine zm hT 1 [0, 1, 2, 3, 4, 12, 13, 14, 39, 40] [(0, (.ptr 0 0)), (1, (aI v1)), (2, (aI v2)), (3, (.int .u32 v3)), (4, (.sl (l4 v7))), (12, (.gr 3 (l2 v20).length)), (13, (aI v8)), (14, (aI v15)), (39, (.gr 4 (l4 []).length)), (40, (.sl (l4 v7)))] ?_
          refine zO (jA hT l4_map e4_k e4_one [.cells [(.gr 1 (l75 v19).length), (.map 2)], .row false 76 2 (l75 v19), .map (mE e75 e2 v6), .row false 3 1 (l2 v20), .row false 4 1 (l4 v21)] false 4 (.gr 4 (l4 []).length) (.sl (l4 v7)) 4 (l4 []).length Weak.refl rfl Weak.refl h10) ?_
          refine zm hT 2 [0, 1, 2, 3, 4, 12, 13, 41, 43] [(0, (.ptr 0 0)), (1, (aI v1)), (2, (aI v2)), (3, (.int .u32 v3)), (4, (.sl (l4 v7))), (12, (.gr 3 (l2 v20).length)), (13, (aI v8)), (41, (.gr 4 (l4 v21).length)), (43, (.bool (v15 == 1)))] ?_
          refine zO (jL hT 4 1 [(.bool (v15 == 1))] 5) ?_
          refine zO (jA hT l4_map e4_k e4_one [.cells [(.gr 1 (l75 v19).length), (.map 2)], .row false 76 2 (l75 v19), .map (mE e75 e2 v6), .row false 3 1 (l2 v20), .row false 4 1 (l4 v22)] false 4 (.gr 4 (l4 v21).length) (.sl (l4 [(v15 == 1)])) 4 (l4 v21).length Weak.refl rfl Weak.refl h11) ?_
          refine ze hT 1 [0, 1, 2, 3, 4, 12, 13] [(0, (.ptr 0 0)), (1, (aI v1)), (2, (aI v2)), (3, (.int .u32 v3)), (4, (.gr 4 (l4 v22).length)), (12, (.gr 3 (l2 v20).length)), (13, (aI v8))] ?_
          refine AE_blkN ?_
          refine zK [0, 1, 2, 3, 4, 12, 13] [(0, (.ptr 0 0)), (1, (aI v1)), (2, (aI v2)), (3, (.int .u32 v3)), (4, (.gr 4 (l4 v22).length)), (12, (.gr 3 (l2 v20).length)), (13, (aI v8))] ?_
          refine AE_weak (env' := [(0, (.ptr 0 0)), (1, (aI v1)), (2, (aI v2)), (3, (.int .u32 v3)), (4, (.sl (l4 v22))), (12, (.gr 3 (l2 v20).length)), (13, (aI v8))]) (Sub.keep (by kernel_rfl) (Sub.keep (by kernel_rfl) (Sub.keep (by kernel_rfl) (Sub.keep (by kernel_rfl) (Sub.cons (by have e : aget [(0, (.ptr 0 0)), (1, (aI v1)), (2, (aI v2)), (3, (.int .u32 v3)), (4, (.gr 4 (l4 v22).length)), (12, (.gr 3 (l2 v20).length)), (13, (aI v8))] 4 = (.gr 4 (l4 v22).length) := (by kernel_rfl); rw [e]; exact (Weak.view (e := 4) (k := 1) (xs := l4 v22) (by kernel_rfl) rfl)) (Sub.keep (by kernel_rfl) (Sub.keep (by kernel_rfl) Sub.nil))))))) ?_
          refine zD 4 [.cells [(.gr 1 (l75 v19).length), (.map 2)], .row false 76 2 (l75 v19), .map (mE e75 e2 v6), .row false 3 1 (l2 v20)] ?_
          exact AE_done ⟨v22, v8, v19, v20, rfl, rfl, k1, by omega, h⟩
      · rintro _ _ ⟨v11, v12, v13, v14, rfl, rfl, n, hn, h⟩
        obtain _ | k12 := n
        · rw [F42_j1] at h; cases h
        rw [F42_j1] at h
        refine zr hT [0, 1, 2, 3, 4, 12, 13] [(0, (.ptr 0 0)), (1, (aI v1)), (2, (aI v2)), (3, (.int .u32 v3)), (4, (.sl (l4 v11))), (12, (.gr 3 (l2 v14).length)), (13, (aI (IntKind.wrap .i64 (v12 + 1))))] ?_
        refine zK [0, 1, 2, 3, 4, 12, 13] [(0, (.ptr 0 0)), (1, (aI v1)), (2, (aI v2)), (3, (.int .u32 v3)), (4, (.sl (l4 v11))), (12, (.gr 3 (l2 v14).length)), (13, (aI (IntKind.wrap .i64 (v12 + 1))))] ?_
        exact AE_done ⟨k12, by omega, by omega, v11, (IntKind.wrap .i64 (v12 + 1)), v13, v14, rfl, rfl, h⟩
    · refine zN h3 ?_
      refine AE_exit ?_
      refine AE_seqX ?_
      refine AE_seqX ?_
      refine AE_blkH ?_
      refine AE_seqN ?_
      refine zs hT [10, 11] [(10, (.gr 3 (l2 v10).length)), (11, (.sl (l4 v7)))] ?_
      refine AE_ret ?_
      refine zK [10, 11] [(10, (.gr 3 (l2 v10).length)), (11, (.sl (l4 v7)))] ?_
      refine AE_weak (env' := [(10, (.sl (l2 v10))), (11, (.sl (l4 v7)))]) (Sub.cons (by have e : aget [(10, (.gr 3 (l2 v10).length)), (11, (.sl (l4 v7)))] 10 = (.gr 3 (l2 v10).length) := (by kernel_rfl); rw [e]; exact (Weak.view (e := 3) (k := 1) (xs := l2 v10) (by kernel_rfl) rfl)) (Sub.keep (by kernel_rfl) Sub.nil)) ?_
      simp only [Option.some.injEq, Prod.mk.injEq] at h
      obtain ⟨rfl, rfl, rfl⟩ := h
      exact zEnd

def F43 (k : Nat) (v1 : Int) : Option (Int) :=
  ((sft .shl .i64 1 v1).bind fun v2 =>
    some (v2))

theorem F43_ok (k : Nat) : ∀ (v1 : Int) (r1 : Int), F43 k v1 = some (r1) → Fn prog 43 [(aI v1)] [] (aI r1) [] := by
  intro v1 r1 h
  rw [F43] at h
  refine Fn_bodyK hT Go.Proofs.Try.func43 (c := Go.Proofs.Try.f43.body.getD .skip) (by kernel_rfl) (by kernel_rfl) (by kernel_rfl) ?_
  refine zs hT [0] [(0, (aI v1))] ?_
  refine AW_seq ?_
  obtain ⟨v2, h1, h⟩ := bsm h
  try dsimp only at h
  refine AW_reg ?_
  refine zm hT 1 [3] [(3, (aI v1))] ?_
  refine zO (jSh hT .shl .i64 .i64 1 v1 h1) ?_
  refine ze hT 1 [2] [(2, (aI v2))] ?_
  refine AE_seqN ?_
  refine AE_ret ?_
  refine zK [2] [(2, (aI v2))] ?_
  simp only [Option.some.injEq] at h
  subst h
  exact zEnd

def F9 (k : Nat) (v1 : Int) (v2 : Int) : Option (Int) :=
  ((F43 k v2).bind fun v3 =>
    ((dvi .rem .i64 v1 v3).bind fun v4 =>
      (bif (decide (v4 < 0)) then
        ((F43 k v2).bind fun v5 =>
          some ((IntKind.wrap .i64 (v4 + v5))))
      else
        some (v4))))

theorem F9_ok (k : Nat) : ∀ (v1 : Int) (v2 : Int) (r1 : Int), F9 k v1 v2 = some (r1) → Fn prog 9 [(aI v1), (aI v2)] [] (aI r1) [] := by
  intro v1 v2 r1 h
  rw [F9] at h
  refine Fn_bodyK hT Go.Proofs.Try.func9 (c := Go.Proofs.Try.f9.body.getD .skip) (by kernel_rfl) (by kernel_rfl) (by kernel_rfl) ?_
  refine zs hT [0, 1] [(0, (aI v1)), (1, (aI v2))] ?_
  refine AW_seq ?_
  obtain ⟨v3, h1, h⟩ := bsm h
  try dsimp only at h
  obtain ⟨v4, h2, h⟩ := bsm h
  try dsimp only at h
  refine AW_reg ?_
  refine zm hT 2 [1, 6, 7] [(1, (aI v2)), (6, (aI v1)), (7, (aI v2))] ?_
  refine zO (jP Go.Proofs.Try.func43 (F43_ok k v2 v3 h1)) ?_
  refine zO (jDv hT .rem .i64 v1 v3 h2) ?_
  refine ze hT 1 [1, 5] [(1, (aI v2)), (5, (aI v4))] ?_
  refine AE_seqN ?_
  refine AW_seq ?_
  refine zs hT [1, 5, 11] [(1, (aI v2)), (5, (aI v4)), (11, (.bool (decide (v4 < 0))))] ?_
  rcases bif_split h with ⟨h3, h⟩ | ⟨h3, h⟩
  · refine zT h3 ?_
    obtain ⟨v5, h4, h⟩ := bsm h
    try dsimp only at h
    refine AW_reg ?_
    refine zm hT 2 [5, 12, 13] [(5, (aI v4)), (12, (aI v4)), (13, (aI v2))] ?_
    refine zO (jP Go.Proofs.Try.func43 (F43_ok k v2 v5 h4)) ?_
    refine ze hT 2 [5] [(5, (aI (IntKind.wrap .i64 (v4 + v5))))] ?_
    refine AE_seqN ?_
    refine zs hT [4] [(4, (aI (IntKind.wrap .i64 (v4 + v5))))] ?_
    refine AE_ret ?_
    refine zK [4] [(4, (aI (IntKind.wrap .i64 (v4 + v5))))] ?_
    simp only [Option.some.injEq] at h
    subst h
    exact zEnd
  · refine zN h3 ?_
    refine AE_skip ?_
    refine AE_seqN ?_
    refine zs hT [4] [(4, (aI v4))] ?_
    refine AE_ret ?_
    refine zK [4] [(4, (aI v4))] ?_
    simp only [Option.some.injEq] at h
    subst h
    exact zEnd

def F8 (k : Nat) (v1 : Int) (v2 : Int) (v3 : Int) (v4 : Int) : Option ((List Int) × (List Int) × (List Bool) × (List T75)) :=
  ((F41 k ).bind fun _ =>
    ((F9 k (IntKind.wrap .i64 v1) v4).bind fun v5 =>
      ((F42 k v5 v4 v3 [] [] []).bind fun ⟨v6, v7, v8⟩ =>
        ((F9 k (IntKind.wrap .i64 v2) v4).bind fun v9 =>
          ((F42 k v9 v4 (Int.fdiv v3 (2 ^ 16)) v7 v8 []).bind fun ⟨v10, v11, v12⟩ =>
            some (v6, v10, v11, v12))))))

theorem F8_ok (k : Nat) : ∀ (v1 : Int) (v2 : Int) (v3 : Int) (v4 : Int) (r1 : (List Int)) (r2 : (List Int)) (r3 : (List Bool)) (r4 : (List T75)), F8 k v1 v2 v3 v4 = some (r1, r2, r3, r4) → Fn prog 8 [(.agg [(.int .u16 v1), (.int .u16 v2), (.int .u32 v3)]), (aI v4)] [] (.tup [(.ptr 0 0), (.sl (l2 r1)), (.sl (l2 r2)), (.sl (l4 r3))]) [.cells [(.gr 1 (l75 r4).length), (.map 2)], .row false 76 2 (l75 r4), .map (mE e75 e2 [])] := by
  intro v1 v2 v3 v4 r1 r2 r3 r4 h
  rw [F8] at h
  refine Fn_bodyK hT Go.Proofs.Try.func8 (c := Go.Proofs.Try.f8.body.getD .skip) (by kernel_rfl) (by kernel_rfl) (by kernel_rfl) ?_
  refine zS hT [1, 2] [(1, (aI v4)), (2, (.ptr 0 0))] [.cells [(.int .u16 v1), (.int .u16 v2), (.int .u32 v3)]] ?_
  refine AW_seq ?_
  obtain ⟨_, h1, h⟩ := bsm h
  try dsimp only at h
  refine AW_reg ?_
  refine zO (jC Go.Proofs.Try.func41 (Fn_in (L := [.cells [(.int .u16 v1), (.int .u16 v2), (.int .u32 v3)]]) (args' := []) (res' := (.ptr 1 0)) (L'' := [.cells [(.int .u16 v1), (.int .u16 v2), (.int .u32 v3)], .cells [.nil, (.map 2)], .map (mE e75 e2 [])]) [] (F41_ok k   h1) rfl (by decide) trivial (by simp [AV.low, AV.lows, AObj.low]) (by simp [AV.low, AV.lows, AObj.low]) (by kernel_rfl) (by simp [AV.ren, AV.rens, AObj.ren, gname, putBack]) (by simp [AV.ren, AV.rens, AObj.ren, gname, putBack]) (by simp [AV.ren, AV.rens, AObj.ren, gname, putBack]))) ?_
  refine ze hT 1 [1, 2, 8] [(1, (aI v4)), (2, (.ptr 0 0)), (8, (.ptr 1 0))] ?_
  refine AE_seqN ?_
  refine AW_seq ?_
  obtain ⟨v5, h2, h⟩ := bsm h
  try dsimp only at h
  obtain ⟨⟨v6, v7, v8⟩, h3, h⟩ := bsm h
  try dsimp only at h
  refine AW_drx hmix [⟨(.ptr 1 0), [], 0, 0, false⟩, ⟨(.ptr 0 0), [], 0, 0, false⟩, ⟨(.int .u16 v1), [1], 0, 0, false⟩, ⟨(aI (IntKind.wrap .i64 v1)), [1, 2], 0, 0, false⟩, ⟨(aI v4), [], 0, 0, false⟩, ⟨(aI v5), [1, 2, 3, 4], 0, 0, false⟩, ⟨(aI v4), [], 0, 0, false⟩, ⟨(.ptr 0 2), [], 0, 0, false⟩, ⟨(.int .u32 v3), [7], 0, 0, false⟩, ⟨(.tup [(.sl (l2 v6)), (.sl (l4 v7))]), [0, 1, 2, 3, 4, 5, 6, 7, 8], 0, 0, true⟩, ⟨(.tup [(.sl (l2 v6)), (.sl (l4 v7))]), [0, 1, 2, 3, 4, 5, 6, 7, 8, 9], 1, 1, false⟩, ⟨(.sl (l2 v6)), [0, 1, 2, 3, 4, 5, 6, 7, 8, 9, 10], 1, 1, false⟩, ⟨(.sl (l4 v7)), [0, 1, 2, 3, 4, 5, 6, 7, 8, 9, 10], 1, 1, false⟩, ⟨(.sl (l2 v6)), [0, 1, 2, 3, 4, 5, 6, 7, 8, 9, 10, 11], 1, 1, false⟩, ⟨(.sl (l4 v7)), [0, 1, 2, 3, 4, 5, 6, 7, 8, 9, 10, 11, 12, 13], 1, 1, false⟩] [9] (fun p => match p with | 0 => [.cells [(.int .u16 v1), (.int .u16 v2), (.int .u32 v3)], .cells [.nil, (.map 2)], .map (mE e75 e2 [])] | _ => [.cells [(.int .u16 v1), (.int .u16 v2), (.int .u32 v3)], .cells [(.gr 3 (l75 v8).length), (.map 2)], .map (mE e75 e2 []), .row false 76 2 (l75 v8)]) [1, 2, 8, 9, 10] [(1, (aI v4)), (2, (.ptr 0 0)), (8, (.ptr 1 0)), (9, (.sl (l2 v6))), (10, (.sl (l4 v7)))] [.cells [(.int .u16 v1), (.int .u16 v2), (.int .u32 v3)], .cells [(.gr 3 (l75 v8).length), (.map 2)], .map (mE e75 e2 []), .row false 76 2 (l75 v8)] (by kernel_rfl) rfl rfl (by kernel_rfl) ?_ ?_
  · refine SA_plain hT 5 (by kernel_rfl) ?_
    refine SA_tell (v := (aI v5)) (by kernel_rfl) (by kernel_rfl) (by kernel_rfl) (fun L => (jP Go.Proofs.Try.func9 (F9_ok k (IntKind.wrap .i64 v1) v4 v5 h2))) ?_
    refine SA_plain hT 3 (by kernel_rfl) ?_
    refine SA_at 0 (v := (.tup [(.sl (l2 v6)), (.sl (l4 v7))])) (Lp := [.cells [(.int .u16 v1), (.int .u16 v2), (.int .u32 v3)], .cells [.nil, (.map 2)], .map (mE e75 e2 [])]) (Lq := [.cells [(.int .u16 v1), (.int .u16 v2), (.int .u32 v3)], .cells [(.gr 3 (l75 v8).length), (.map 2)], .map (mE e75 e2 []), .row false 76 2 (l75 v8)]) (by kernel_rfl) (by kernel_rfl) (by kernel_rfl) (by kernel_rfl) (by kernel_rfl) (by kernel_rfl) (OpJ_gh (Gh.row false 76 2 (xs := l75 []) rfl (by kernel_rfl) (L' := [.cells [(.int .u16 v1), (.int .u16 v2), (.int .u32 v3)], .cells [.nil, (.map 2)], .map (mE e75 e2 []), .row false 76 2 (l75 [])]) (by kernel_rfl)) (OpJ_gh (Gh.recell 1 (cs := [.nil, (.map 2)]) (cs' := [(.gr 3 (l75 []).length), (.map 2)]) (by kernel_rfl) ⟨(Weak.void (mu := false) (e := 76) (k := 2) (xs := l75 []) (by kernel_rfl) rfl rfl), Weak.refl, trivial⟩ (by kernel_rfl) (L' := [.cells [(.int .u16 v1), (.int .u16 v2), (.int .u32 v3)], .cells [(.gr 3 (l75 []).length), (.map 2)], .map (mE e75 e2 []), .row false 76 2 (l75 [])]) (by kernel_rfl)) (jC Go.Proofs.Try.func42 (Fn_args (args := [(.ptr 1 0), (aI v5), (aI v4), (.int .u32 v3), .nil]) (args' := [(.ptr 1 0), (aI v5), (aI v4), (.int .u32 v3), (.sl (l4 []))]) (Fn_in (L := [.cells [(.int .u16 v1), (.int .u16 v2), (.int .u32 v3)], .cells [(.gr 3 (l75 []).length), (.map 2)], .map (mE e75 e2 []), .row false 76 2 (l75 [])]) (args' := [(.ptr 1 0), (aI v5), (aI v4), (.int .u32 v3), (.sl (l4 []))]) (res' := (.tup [(.sl (l2 v6)), (.sl (l4 v7))])) (L'' := [.cells [(.int .u16 v1), (.int .u16 v2), (.int .u32 v3)], .cells [(.gr 3 (l75 v8).length), (.map 2)], .map (mE e75 e2 []), .row false 76 2 (l75 v8)]) [1, 3, 2] (F42_ok k v5 v4 v3 [] [] [] v6 v7 v8 h3) rfl (by decide) ⟨(by simp [AV.ren, AV.rens, AObj.ren, gname]), (by simp [AV.ren, AV.rens, AObj.ren, gname]), (by simp [AV.ren, AV.rens, AObj.ren, gname]), trivial⟩ (by simp [AV.low, AV.lows, AObj.low]) (by simp [AV.low, AV.lows, AObj.low]) (by kernel_rfl) (by simp [AV.ren, AV.rens, AObj.ren, gname, putBack]) (by simp [AV.ren, AV.rens, AObj.ren, gname, putBack]) (by simp [AV.ren, AV.rens, AObj.ren, gname, putBack])) ⟨Weak.refl, Weak.refl, Weak.refl, Weak.refl, Weak.nil, trivial⟩)))) ?_
    refine SA_plain hT 5 (by kernel_rfl) ?_
    exact SA_end (by kernel_rfl)
  refine AE_seqN ?_
  refine AW_seq ?_
  obtain ⟨v9, h4, h⟩ := bsm h
  try dsimp only at h
  obtain ⟨⟨v10, v11, v12⟩, h5, h⟩ := bsm h
  try dsimp only at h
  refine AW_drx hmix [⟨(.ptr 1 0), [], 0, 0, false⟩, ⟨(.ptr 0 1), [], 0, 0, false⟩, ⟨(.int .u16 v2), [1], 0, 0, false⟩, ⟨(aI (IntKind.wrap .i64 v2)), [1, 2], 0, 0, false⟩, ⟨(aI v4), [], 0, 0, false⟩, ⟨(aI v9), [1, 2, 3, 4], 0, 0, false⟩, ⟨(aI v4), [], 0, 0, false⟩, ⟨(.ptr 0 2), [], 0, 0, false⟩, ⟨(.int .u32 v3), [7], 0, 0, false⟩, ⟨(.int .u32 (Int.fdiv v3 (2 ^ 16))), [7, 8], 0, 0, false⟩, ⟨(.sl (l4 v7)), [], 0, 0, false⟩, ⟨(.tup [(.sl (l2 v10)), (.sl (l4 v11))]), [0, 1, 2, 3, 4, 5, 6, 7, 8, 9, 10], 0, 0, true⟩, ⟨(.tup [(.sl (l2 v10)), (.sl (l4 v11))]), [0, 1, 2, 3, 4, 5, 6, 7, 8, 9, 10, 11], 1, 1, false⟩, ⟨(.sl (l2 v10)), [0, 1, 2, 3, 4, 5, 6, 7, 8, 9, 10, 11, 12], 1, 1, false⟩, ⟨(.sl (l4 v11)), [0, 1, 2, 3, 4, 5, 6, 7, 8, 9, 10, 11, 12], 1, 1, false⟩, ⟨(.sl (l2 v10)), [0, 1, 2, 3, 4, 5, 6, 7, 8, 9, 10, 11, 12, 13], 1, 1, false⟩, ⟨(.sl (l4 v11)), [0, 1, 2, 3, 4, 5, 6, 7, 8, 9, 10, 11, 12, 13, 14, 15], 1, 1, false⟩] [11] (fun p => match p with | 0 => [.cells [(.int .u16 v1), (.int .u16 v2), (.int .u32 v3)], .cells [(.gr 3 (l75 v8).length), (.map 2)], .map (mE e75 e2 []), .row false 76 2 (l75 v8)] | _ => [.cells [(.int .u16 v1), (.int .u16 v2), (.int .u32 v3)], .cells [(.gr 3 (l75 v12).length), (.map 2)], .map (mE e75 e2 []), .row false 76 2 (l75 v12)]) [8, 9, 10, 11] [(8, (.ptr 1 0)), (9, (.sl (l2 v6))), (10, (.sl (l4 v11))), (11, (.sl (l2 v10)))] [.cells [(.int .u16 v1), (.int .u16 v2), (.int .u32 v3)], .cells [(.gr 3 (l75 v12).length), (.map 2)], .map (mE e75 e2 []), .row false 76 2 (l75 v12)] (by kernel_rfl) rfl rfl (by kernel_rfl) ?_ ?_
  · refine SA_plain hT 5 (by kernel_rfl) ?_
    refine SA_tell (v := (aI v9)) (by kernel_rfl) (by kernel_rfl) (by kernel_rfl) (fun L => (jP Go.Proofs.Try.func9 (F9_ok k (IntKind.wrap .i64 v2) v4 v9 h4))) ?_
    refine SA_plain hT 5 (by kernel_rfl) ?_
    refine SA_at 0 (v := (.tup [(.sl (l2 v10)), (.sl (l4 v11))])) (Lp := [.cells [(.int .u16 v1), (.int .u16 v2), (.int .u32 v3)], .cells [(.gr 3 (l75 v8).length), (.map 2)], .map (mE e75 e2 []), .row false 76 2 (l75 v8)]) (Lq := [.cells [(.int .u16 v1), (.int .u16 v2), (.int .u32 v3)], .cells [(.gr 3 (l75 v12).length), (.map 2)], .map (mE e75 e2 []), .row false 76 2 (l75 v12)]) (by kernel_rfl) (by kernel_rfl) (by kernel_rfl) (by kernel_rfl) (by kernel_rfl) (by kernel_rfl) (jC Go.Proofs.Try.func42 (Fn_in (L := [.cells [(.int .u16 v1), (.int .u16 v2), (.int .u32 v3)], .cells [(.gr 3 (l75 v8).length), (.map 2)], .map (mE e75 e2 []), .row false 76 2 (l75 v8)]) (args' := [(.ptr 1 0), (aI v9), (aI v4), (.int .u32 (Int.fdiv v3 (2 ^ 16))), (.sl (l4 v7))]) (res' := (.tup [(.sl (l2 v10)), (.sl (l4 v11))])) (L'' := [.cells [(.int .u16 v1), (.int .u16 v2), (.int .u32 v3)], .cells [(.gr 3 (l75 v12).length), (.map 2)], .map (mE e75 e2 []), .row false 76 2 (l75 v12)]) [1, 3, 2] (F42_ok k v9 v4 (Int.fdiv v3 (2 ^ 16)) v7 v8 [] v10 v11 v12 h5) rfl (by decide) ⟨(by simp [AV.ren, AV.rens, AObj.ren, gname]), (by simp [AV.ren, AV.rens, AObj.ren, gname]), (by simp [AV.ren, AV.rens, AObj.ren, gname]), trivial⟩ (by simp [AV.low, AV.lows, AObj.low]) (by simp [AV.low, AV.lows, AObj.low]) (by kernel_rfl) (by simp [AV.ren, AV.rens, AObj.ren, gname, putBack]) (by simp [AV.ren, AV.rens, AObj.ren, gname, putBack]) (by simp [AV.ren, AV.rens, AObj.ren, gname, putBack]))) ?_
    refine SA_plain hT 5 (by kernel_rfl) ?_
    exact SA_end (by kernel_rfl)
  refine AE_seqN ?_
  refine zs hT [4, 5, 6, 7] [(4, (.ptr 1 0)), (5, (.sl (l2 v6))), (6, (.sl (l2 v10))), (7, (.sl (l4 v11)))] ?_
  refine AE_ret ?_
  refine zK [4, 5, 6, 7] [(4, (.ptr 1 0)), (5, (.sl (l2 v6))), (6, (.sl (l2 v10))), (7, (.sl (l4 v11)))] ?_
  refine AE_perm [1, 3, 2, 0] (env' := [(4, (.ptr 0 0)), (5, (.sl (l2 v6))), (6, (.sl (l2 v10))), (7, (.sl (l4 v11)))]) (L' := [.cells [(.gr 1 (l75 v12).length), (.map 2)], .row false 76 2 (l75 v12), .map (mE e75 e2 []), .cells [(.int .u16 v1), (.int .u16 v2), (.int .u32 v3)]]) rfl rfl (by decide) (by decide) (by kernel_rfl) ⟨(by simp [AV.ren, AV.rens, AObj.ren, pname]), (by simp [AV.ren, AV.rens, AObj.ren, pname]), (by simp [AV.ren, AV.rens, AObj.ren, pname]), (by simp [AV.ren, AV.rens, AObj.ren, pname]), trivial⟩ (by simp [AV.low, AV.lows, AObj.low]) (by simp [AV.ren, AV.rens, AObj.ren, pname]) (by simp [AV.low, AV.lows]) ?_
  simp only [Option.some.injEq, Prod.mk.injEq] at h
  obtain ⟨rfl, rfl, rfl, rfl⟩ := h
  exact zEnd

def F3_j2 (k25 : Nat) (v4 : Int) (v55 : (List Int)) (v56 : Int) (v57 : (List T75)) (v58 : (List (T75 × Int))) (v59 : (List Bool)) : Option (Bool) :=
  ((F18 k25 v59 v55 (IntKind.wrap .i64 (1 + (IntKind.wrap .i64 (Int.tmod v4 8)))) v56 v57 v58).bind fun v60 =>
    (bif v60 then
      ((F19 k25 ).bind fun v61 =>
        some (v61))
    else
      some (false)))

mutual
def F3_j1 : Nat → Bool → Int → Int → Int → (List Int) → (List Int) → (List Bool) → (List Bool) → Int → Bool → (List T75) → (List (T75 × Int)) → (List Bool) → Option (Bool)
  | 0, _, _, _, _, _, _, _, _, _, _, _, _, _ => none
  | k21 + 1, v5, v4, v40, v41, v42, v43, v44, v45, v46, v47, v48, v49, v50 =>
    (bif v47 then
      some (false)
    else
      F3_l0 k21 v5 v4 v40 v41 v42 v43 v44 v45 (IntKind.wrap .i64 (v46 + 1)) v48 v49 v50)
def F3_l0 : Nat → Bool → Int → Int → Int → (List Int) → (List Int) → (List Bool) → (List Bool) → Int → (List T75) → (List (T75 × Int)) → (List Bool) → Option (Bool)
  | 0, _, _, _, _, _, _, _, _, _, _, _, _ => none
  | k13 + 1, v5, v4, v30, v31, v32, v33, v34, v35, v36, v37, v38, v39 =>
    (bif (decide (v36 < ((l4 v34).length : Int))) then
      ((idx v33 v36).bind fun v51 =>
        (bif (decide (v51 < 0)) then
          F3_j1 k13 v5 v4 v30 v31 v32 v33 v34 v35 v36 true v37 v38 v39
        else
          ((idx v33 v36).bind fun v52 =>
            ((F17 k13 v35 v52).bind fun v53 =>
              ((idx v34 v36).bind fun v54 =>
                F3_j1 k13 v5 v4 v30 v31 v32 v33 v34 v35 v36 (!(v53 == v54)) v37 v38 v39)))))
    else
      (bif v5 then
        F3_j2 k13 v4 v32 v30 v37 v38 v39
      else
        F3_j2 k13 v4 v32 v31 v37 v38 v39))
end

def F3 (k : Nat) (v1 : Int) (v2 : Int) (v3 : Int) (v4 : Int) (v5 : Bool) : Option (Bool) :=
  ((F8 k v1 v2 v3 (IntKind.wrap .i64 (1 + (IntKind.wrap .i64 (Int.tmod v4 8))))).bind fun ⟨v6, v7, v8, v9⟩ =>
    ((F9 k (IntKind.wrap .i64 v1) (IntKind.wrap .i64 (1 + (IntKind.wrap .i64 (Int.tmod v4 8))))).bind fun v10 =>
      ((F9 k (IntKind.wrap .i64 v2) (IntKind.wrap .i64 (1 + (IntKind.wrap .i64 (Int.tmod v4 8))))).bind fun v11 =>
        ((F10 k v9 []).bind fun ⟨v12, v13⟩ =>
          ((appL 1 [] v8).bind fun v14 =>
            ((appL 1 v14 [v5]).bind fun v15 =>
              ((F11 k v12 v6 v7 v13 []).bind fun ⟨v16, v17, v18⟩ =>
                ((F12 k v6 v7 v17 v18).bind fun ⟨v19, v20, v21⟩ =>
                  ((F13 k v6 v7 v20 v21).bind fun ⟨v22, v23, v24⟩ =>
                    ((F14 k v6 v23 v24).bind fun ⟨v25, v26, v27⟩ =>
                      ((F16 k v26 v27).bind fun v28 =>
                        ((F15 k v28 v15).bind fun v29 =>
                          F3_l0 k v5 v4 v10 v11 v16 [v19, v22, v25] [(v10 == v11), (decide (v10 < v11)), (v10 != 0)] v29 0 v26 v27 v15))))))))))))

theorem F3_ok (k : Nat) : ∀ (v1 : Int) (v2 : Int) (v3 : Int) (v4 : Int) (v5 : Bool) (r1 : Bool), F3 k v1 v2 v3 v4 v5 = some (r1) → Fn prog 3 [(.agg [(.int .u16 v1), (.int .u16 v2), (.int .u32 v3)]), (.int .u8 v4), (.bool v5)] [] (.bool r1) [] := by
  intro v1 v2 v3 v4 v5 r1 h
  rw [F3] at h
  refine Fn_bodyK hT Go.Proofs.Try.func3 (c := Go.Proofs.Try.f3.body.getD .skip) (by kernel_rfl) (by kernel_rfl) (by kernel_rfl) ?_
  refine zS hT [1, 2, 3] [(1, (.int .u8 v4)), (2, (.bool v5)), (3, (.ptr 0 0))] [.cells [(.int .u16 v1), (.int .u16 v2), (.int .u32 v3)]] ?_
  refine zs hT [2, 3, 7] [(2, (.bool v5)), (3, (.ptr 0 0)), (7, (aI (IntKind.wrap .i64 (1 + (IntKind.wrap .i64 (Int.tmod v4 8))))))] ?_
  refine AW_seq ?_
  obtain ⟨⟨v6, v7, v8, v9⟩, h1, h⟩ := bsm h
  try dsimp only at h
  refine AW_reg ?_
  refine zm hT 2 [2, 3, 7, 26, 27] [(2, (.bool v5)), (3, (.ptr 0 0)), (7, (aI (IntKind.wrap .i64 (1 + (IntKind.wrap .i64 (Int.tmod v4 8)))))), (26, (.agg [(.int .u16 v1), (.int .u16 v2), (.int .u32 v3)])), (27, (aI (IntKind.wrap .i64 (1 + (IntKind.wrap .i64 (Int.tmod v4 8))))))] ?_
  refine zO (jC Go.Proofs.Try.func8 (Fn_in (L := [.cells [(.int .u16 v1), (.int .u16 v2), (.int .u32 v3)]]) (args' := [(.agg [(.int .u16 v1), (.int .u16 v2), (.int .u32 v3)]), (aI (IntKind.wrap .i64 (1 + (IntKind.wrap .i64 (Int.tmod v4 8)))))]) (res' := (.tup [(.ptr 1 0), (.sl (l2 v6)), (.sl (l2 v7)), (.sl (l4 v8))])) (L'' := [.cells [(.int .u16 v1), (.int .u16 v2), (.int .u32 v3)], .cells [(.gr 2 (l75 v9).length), (.map 3)], .row false 76 2 (l75 v9), .map (mE e75 e2 [])]) [] (F8_ok k v1 v2 v3 (IntKind.wrap .i64 (1 + (IntKind.wrap .i64 (Int.tmod v4 8)))) v6 v7 v8 v9 h1) rfl (by decide) trivial (by simp [AV.low, AV.lows, AObj.low]) (by simp [AV.low, AV.lows, AObj.low]) (by kernel_rfl) (by simp [AV.ren, AV.rens, AObj.ren, gname, putBack]) (by simp [AV.ren, AV.rens, AObj.ren, gname, putBack]) (by simp [AV.ren, AV.rens, AObj.ren, gname, putBack]))) ?_
  refine ze hT 9 [2, 3, 7, 8, 9, 10, 11] [(2, (.bool v5)), (3, (.ptr 0 0)), (7, (aI (IntKind.wrap .i64 (1 + (IntKind.wrap .i64 (Int.tmod v4 8)))))), (8, (.ptr 1 0)), (9, (.sl (l2 v6))), (10, (.sl (l2 v7))), (11, (.sl (l4 v8)))] ?_
  refine AE_seqN ?_
  refine AW_seq ?_
  obtain ⟨v10, h2, h⟩ := bsm h
  try dsimp only at h
  obtain ⟨v11, h3, h⟩ := bsm h
  try dsimp only at h
  refine AW_drx hmix [⟨(.ptr 0 0), [], 0, 0, false⟩, ⟨(.int .u16 v1), [0], 0, 0, false⟩, ⟨(aI (IntKind.wrap .i64 v1)), [0, 1], 0, 0, false⟩, ⟨(aI (IntKind.wrap .i64 (1 + (IntKind.wrap .i64 (Int.tmod v4 8))))), [], 0, 0, false⟩, ⟨(aI v10), [0, 1, 2, 3], 0, 0, false⟩, ⟨(.ptr 0 1), [], 0, 0, false⟩, ⟨(.int .u16 v2), [5], 0, 0, false⟩, ⟨(aI (IntKind.wrap .i64 v2)), [5, 6], 0, 0, false⟩, ⟨(aI (IntKind.wrap .i64 (1 + (IntKind.wrap .i64 (Int.tmod v4 8))))), [], 0, 0, false⟩, ⟨(aI v11), [0, 1, 2, 3, 4, 5, 6, 7, 8], 0, 0, false⟩, ⟨(aI v10), [0, 1, 2, 3, 4, 5, 6, 7, 8, 9], 0, 0, false⟩, ⟨(aI v11), [0, 1, 2, 3, 4, 5, 6, 7, 8, 9, 10], 0, 0, false⟩] [] (fun _ => [.cells [(.int .u16 v1), (.int .u16 v2), (.int .u32 v3)], .cells [(.gr 2 (l75 v9).length), (.map 3)], .row false 76 2 (l75 v9), .map (mE e75 e2 [])]) [2, 7, 8, 9, 10, 11, 12, 13] [(2, (.bool v5)), (7, (aI (IntKind.wrap .i64 (1 + (IntKind.wrap .i64 (Int.tmod v4 8)))))), (8, (.ptr 1 0)), (9, (.sl (l2 v6))), (10, (.sl (l2 v7))), (11, (.sl (l4 v8))), (12, (aI v10)), (13, (aI v11))] [.cells [(.int .u16 v1), (.int .u16 v2), (.int .u32 v3)], .cells [(.gr 2 (l75 v9).length), (.map 3)], .row false 76 2 (l75 v9), .map (mE e75 e2 [])] (by kernel_rfl) rfl rfl (by kernel_rfl) ?_ ?_
  · refine SA_plain hT 4 (by kernel_rfl) ?_
    refine SA_tell (v := (aI v10)) (by kernel_rfl) (by kernel_rfl) (by kernel_rfl) (fun L => (jP Go.Proofs.Try.func9 (F9_ok k (IntKind.wrap .i64 v1) (IntKind.wrap .i64 (1 + (IntKind.wrap .i64 (Int.tmod v4 8)))) v10 h2))) ?_
    refine SA_plain hT 4 (by kernel_rfl) ?_
    refine SA_tell (v := (aI v11)) (by kernel_rfl) (by kernel_rfl) (by kernel_rfl) (fun L => (jP Go.Proofs.Try.func9 (F9_ok k (IntKind.wrap .i64 v2) (IntKind.wrap .i64 (1 + (IntKind.wrap .i64 (Int.tmod v4 8)))) v11 h3))) ?_
    refine SA_plain hT 2 (by kernel_rfl) ?_
    exact SA_end (by kernel_rfl)
  refine AE_seqN ?_
  refine AW_seq ?_
  obtain ⟨⟨v12, v13⟩, h4, h⟩ := bsm h
  try dsimp only at h
  refine AW_reg ?_
  refine zm hT 1 [2, 7, 8, 9, 10, 11, 12, 13, 43] [(2, (.bool v5)), (7, (aI (IntKind.wrap .i64 (1 + (IntKind.wrap .i64 (Int.tmod v4 8)))))), (8, (.ptr 1 0)), (9, (.sl (l2 v6))), (10, (.sl (l2 v7))), (11, (.sl (l4 v8))), (12, (aI v10)), (13, (aI v11)), (43, (.ptr 1 0))] ?_
  refine zO (jC Go.Proofs.Try.func10 (Fn_in (L := [.cells [(.int .u16 v1), (.int .u16 v2), (.int .u32 v3)], .cells [(.gr 2 (l75 v9).length), (.map 3)], .row false 76 2 (l75 v9), .map (mE e75 e2 [])]) (args' := [(.ptr 1 0)]) (res' := (aI v12)) (L'' := [.cells [(.int .u16 v1), (.int .u16 v2), (.int .u32 v3)], .cells [(.gr 2 (l75 v13).length), (.map 3)], .row false 76 2 (l75 v13), .map (mE e75 e2 [])]) [1, 2, 3] (F10_ok k v9 [] v12 v13 h4) rfl (by decide) ⟨(by simp [AV.ren, AV.rens, AObj.ren, gname]), (by simp [AV.ren, AV.rens, AObj.ren, gname]), (by simp [AV.ren, AV.rens, AObj.ren, gname]), trivial⟩ (by simp [AV.low, AV.lows, AObj.low]) (by simp [AV.low, AV.lows, AObj.low]) (by kernel_rfl) (by simp [AV.ren, AV.rens, AObj.ren, gname, putBack]) (by simp [AV.ren, AV.rens, AObj.ren, gname, putBack]) (by simp [AV.ren, AV.rens, AObj.ren, gname, putBack]))) ?_
  refine ze hT 1 [2, 7, 8, 9, 10, 11, 12, 13, 14] [(2, (.bool v5)), (7, (aI (IntKind.wrap .i64 (1 + (IntKind.wrap .i64 (Int.tmod v4 8)))))), (8, (.ptr 1 0)), (9, (.sl (l2 v6))), (10, (.sl (l2 v7))), (11, (.sl (l4 v8))), (12, (aI v10)), (13, (aI v11)), (14, (aI v12))] ?_
  refine AE_seqN ?_
  refine AW_seq ?_
  obtain ⟨v14, h5, h⟩ := bsm h
  try dsimp only at h
  obtain ⟨v15, h6, h⟩ := bsm h
  try dsimp only at h
  refine AW_reg ?_
  refine zO (OpJ_builtRow hT (e := 4) (k := 1) (xs := l4 []) false 4 (by kernel_rfl) rfl ⟨_, _, _, rfl⟩) ?_
  refine zm hT 1 [2, 7, 8, 9, 10, 11, 12, 13, 14, 45, 46] [(2, (.bool v5)), (7, (aI (IntKind.wrap .i64 (1 + (IntKind.wrap .i64 (Int.tmod v4 8)))))), (8, (.ptr 1 0)), (9, (.sl (l2 v6))), (10, (.sl (l2 v7))), (11, (.sl (l4 v8))), (12, (aI v10)), (13, (aI v11)), (14, (aI v12)), (45, (.gr 4 (l4 []).length)), (46, (.sl (l4 v8)))] ?_
  refine zO (jA hT l4_map e4_k e4_one [.cells [(.int .u16 v1), (.int .u16 v2), (.int .u32 v3)], .cells [(.gr 2 (l75 v13).length), (.map 3)], .row false 76 2 (l75 v13), .map (mE e75 e2 []), .row false 4 1 (l4 v14)] false 4 (.gr 4 (l4 []).length) (.sl (l4 v8)) 4 (l4 []).length Weak.refl rfl Weak.refl h5) ?_
  refine zm hT 1 [2, 7, 8, 9, 10, 11, 12, 13, 14, 47, 48] [(2, (.bool v5)), (7, (aI (IntKind.wrap .i64 (1 + (IntKind.wrap .i64 (Int.tmod v4 8)))))), (8, (.ptr 1 0)), (9, (.sl (l2 v6))), (10, (.sl (l2 v7))), (11, (.sl (l4 v8))), (12, (aI v10)), (13, (aI v11)), (14, (aI v12)), (47, (.gr 4 (l4 v14).length)), (48, (.bool v5))] ?_
  refine zO (jL hT 4 1 [(.bool v5)] 5) ?_
  refine zO (jA hT l4_map e4_k e4_one [.cells [(.int .u16 v1), (.int .u16 v2), (.int .u32 v3)], .cells [(.gr 2 (l75 v13).length), (.map 3)], .row false 76 2 (l75 v13), .map (mE e75 e2 []), .row false 4 1 (l4 v15)] false 4 (.gr 4 (l4 v14).length) (.sl (l4 [v5])) 4 (l4 v14).length Weak.refl rfl Weak.refl h6) ?_
  refine ze hT 1 [2, 7, 8, 9, 10, 11, 12, 13, 14] [(2, (.bool v5)), (7, (aI (IntKind.wrap .i64 (1 + (IntKind.wrap .i64 (Int.tmod v4 8)))))), (8, (.ptr 1 0)), (9, (.sl (l2 v6))), (10, (.sl (l2 v7))), (11, (.gr 4 (l4 v15).length)), (12, (aI v10)), (13, (aI v11)), (14, (aI v12))] ?_
  refine AE_seqN ?_
  refine AW_seq ?_
  obtain ⟨⟨v16, v17, v18⟩, h7, h⟩ := bsm h
  try dsimp only at h
  refine AW_reg ?_
  refine zm hT 4 [2, 7, 8, 9, 10, 11, 12, 13, 51, 52, 53, 54] [(2, (.bool v5)), (7, (aI (IntKind.wrap .i64 (1 + (IntKind.wrap .i64 (Int.tmod v4 8)))))), (8, (.ptr 1 0)), (9, (.sl (l2 v6))), (10, (.sl (l2 v7))), (11, (.gr 4 (l4 v15).length)), (12, (aI v10)), (13, (aI v11)), (51, (.ptr 1 0)), (52, (aI v12)), (53, (.sl (l2 v6))), (54, (.sl (l2 v7)))] ?_
  refine zO (jC Go.Proofs.Try.func11 (Fn_in (L := [.cells [(.int .u16 v1), (.int .u16 v2), (.int .u32 v3)], .cells [(.gr 2 (l75 v13).length), (.map 3)], .row false 76 2 (l75 v13), .map (mE e75 e2 []), .row false 4 1 (l4 v15)]) (args' := [(.ptr 1 0), (aI v12), (.sl (l2 v6)), (.sl (l2 v7))]) (res' := (.sl (l2 v16))) (L'' := [.cells [(.int .u16 v1), (.int .u16 v2), (.int .u32 v3)], .cells [(.gr 2 (l75 v17).length), (.map 3)], .row false 76 2 (l75 v17), .map (mE e75 e2 v18), .row false 4 1 (l4 v15)]) [1, 2, 3] (F11_ok k v12 v6 v7 v13 [] v16 v17 v18 h7) rfl (by decide) ⟨(by simp [AV.ren, AV.rens, AObj.ren, gname]), (by simp [AV.ren, AV.rens, AObj.ren, gname]), (by simp [AV.ren, AV.rens, AObj.ren, gname]), trivial⟩ (by simp [AV.low, AV.lows, AObj.low]) (by simp [AV.low, AV.lows, AObj.low]) (by kernel_rfl) (by simp [AV.ren, AV.rens, AObj.ren, gname, putBack]) (by simp [AV.ren, AV.rens, AObj.ren, gname, putBack]) (by simp [AV.ren, AV.rens, AObj.ren, gname, putBack]))) ?_
  refine ze hT 1 [2, 7, 8, 9, 10, 11, 12, 13, 15] [(2, (.bool v5)), (7, (aI (IntKind.wrap .i64 (1 + (IntKind.wrap .i64 (Int.tmod v4 8)))))), (8, (.ptr 1 0)), (9, (.sl (l2 v6))), (10, (.sl (l2 v7))), (11, (.gr 4 (l4 v15).length)), (12, (aI v10)), (13, (aI v11)), (15, (.sl (l2 v16)))] ?_
  refine AE_seqN ?_
  refine AW_seq ?_
  obtain ⟨⟨v19, v20, v21⟩, h8, h⟩ := bsm h
  try dsimp only at h
  obtain ⟨⟨v22, v23, v24⟩, h9, h⟩ := bsm h
  try dsimp only at h
  obtain ⟨⟨v25, v26, v27⟩, h10, h⟩ := bsm h
  try dsimp only at h
  refine AW_reg ?_
  refine zm hT 3 [2, 7, 8, 9, 10, 11, 12, 13, 15, 56, 57, 58] [(2, (.bool v5)), (7, (aI (IntKind.wrap .i64 (1 + (IntKind.wrap .i64 (Int.tmod v4 8)))))), (8, (.ptr 1 0)), (9, (.sl (l2 v6))), (10, (.sl (l2 v7))), (11, (.gr 4 (l4 v15).length)), (12, (aI v10)), (13, (aI v11)), (15, (.sl (l2 v16))), (56, (.ptr 1 0)), (57, (.sl (l2 v6))), (58, (.sl (l2 v7)))] ?_
  refine zO (jC Go.Proofs.Try.func12 (Fn_in (L := [.cells [(.int .u16 v1), (.int .u16 v2), (.int .u32 v3)], .cells [(.gr 2 (l75 v17).length), (.map 3)], .row false 76 2 (l75 v17), .map (mE e75 e2 v18), .row false 4 1 (l4 v15)]) (args' := [(.ptr 1 0), (.sl (l2 v6)), (.sl (l2 v7))]) (res' := (aI v19)) (L'' := [.cells [(.int .u16 v1), (.int .u16 v2), (.int .u32 v3)], .cells [(.gr 2 (l75 v20).length), (.map 3)], .row false 76 2 (l75 v20), .map (mE e75 e2 v21), .row false 4 1 (l4 v15)]) [1, 2, 3] (F12_ok k v6 v7 v17 v18 v19 v20 v21 h8) rfl (by decide) ⟨(by simp [AV.ren, AV.rens, AObj.ren, gname]), (by simp [AV.ren, AV.rens, AObj.ren, gname]), (by simp [AV.ren, AV.rens, AObj.ren, gname]), trivial⟩ (by simp [AV.low, AV.lows, AObj.low]) (by simp [AV.low, AV.lows, AObj.low]) (by kernel_rfl) (by simp [AV.ren, AV.rens, AObj.ren, gname, putBack]) (by simp [AV.ren, AV.rens, AObj.ren, gname, putBack]) (by simp [AV.ren, AV.rens, AObj.ren, gname, putBack]))) ?_
  refine zm hT 3 [2, 7, 8, 9, 11, 12, 13, 15, 59, 60, 61, 62] [(2, (.bool v5)), (7, (aI (IntKind.wrap .i64 (1 + (IntKind.wrap .i64 (Int.tmod v4 8)))))), (8, (.ptr 1 0)), (9, (.sl (l2 v6))), (11, (.gr 4 (l4 v15).length)), (12, (aI v10)), (13, (aI v11)), (15, (.sl (l2 v16))), (59, (aI v19)), (60, (.ptr 1 0)), (61, (.sl (l2 v6))), (62, (.sl (l2 v7)))] ?_
  refine zO (jC Go.Proofs.Try.func13 (Fn_in (L := [.cells [(.int .u16 v1), (.int .u16 v2), (.int .u32 v3)], .cells [(.gr 2 (l75 v20).length), (.map 3)], .row false 76 2 (l75 v20), .map (mE e75 e2 v21), .row false 4 1 (l4 v15)]) (args' := [(.ptr 1 0), (.sl (l2 v6)), (.sl (l2 v7))]) (res' := (aI v22)) (L'' := [.cells [(.int .u16 v1), (.int .u16 v2), (.int .u32 v3)], .cells [(.gr 2 (l75 v23).length), (.map 3)], .row false 76 2 (l75 v23), .map (mE e75 e2 v24), .row false 4 1 (l4 v15)]) [1, 2, 3] (F13_ok k v6 v7 v20 v21 v22 v23 v24 h9) rfl (by decide) ⟨(by simp [AV.ren, AV.rens, AObj.ren, gname]), (by simp [AV.ren, AV.rens, AObj.ren, gname]), (by simp [AV.ren, AV.rens, AObj.ren, gname]), trivial⟩ (by simp [AV.low, AV.lows, AObj.low]) (by simp [AV.low, AV.lows, AObj.low]) (by kernel_rfl) (by simp [AV.ren, AV.rens, AObj.ren, gname, putBack]) (by simp [AV.ren, AV.rens, AObj.ren, gname, putBack]) (by simp [AV.ren, AV.rens, AObj.ren, gname, putBack]))) ?_
  refine zm hT 2 [2, 7, 8, 11, 12, 13, 15, 59, 63, 64, 65] [(2, (.bool v5)), (7, (aI (IntKind.wrap .i64 (1 + (IntKind.wrap .i64 (Int.tmod v4 8)))))), (8, (.ptr 1 0)), (11, (.gr 4 (l4 v15).length)), (12, (aI v10)), (13, (aI v11)), (15, (.sl (l2 v16))), (59, (aI v19)), (63, (aI v22)), (64, (.ptr 1 0)), (65, (.sl (l2 v6)))] ?_
  refine zO (jC Go.Proofs.Try.func14 (Fn_in (L := [.cells [(.int .u16 v1), (.int .u16 v2), (.int .u32 v3)], .cells [(.gr 2 (l75 v23).length), (.map 3)], .row false 76 2 (l75 v23), .map (mE e75 e2 v24), .row false 4 1 (l4 v15)]) (args' := [(.ptr 1 0), (.sl (l2 v6))]) (res' := (aI v25)) (L'' := [.cells [(.int .u16 v1), (.int .u16 v2), (.int .u32 v3)], .cells [(.gr 2 (l75 v26).length), (.map 3)], .row false 76 2 (l75 v26), .map (mE e75 e2 v27), .row false 4 1 (l4 v15)]) [1, 2, 3] (F14_ok k v6 v23 v24 v25 v26 v27 h10) rfl (by decide) ⟨(by simp [AV.ren, AV.rens, AObj.ren, gname]), (by simp [AV.ren, AV.rens, AObj.ren, gname]), (by simp [AV.ren, AV.rens, AObj.ren, gname]), trivial⟩ (by simp [AV.low, AV.lows, AObj.low]) (by simp [AV.low, AV.lows, AObj.low]) (by kernel_rfl) (by simp [AV.ren, AV.rens, AObj.ren, gname, putBack]) (by simp [AV.ren, AV.rens, AObj.ren, gname, putBack]) (by simp [AV.ren, AV.rens, AObj.ren, gname, putBack]))) ?_
  refine zO (jL hT 3 1 [(aI v19), (aI v22), (aI v25)] 5) ?_
  refine ze hT 1 [2, 7, 8, 11, 12, 13, 15, 16] [(2, (.bool v5)), (7, (aI (IntKind.wrap .i64 (1 + (IntKind.wrap .i64 (Int.tmod v4 8)))))), (8, (.ptr 1 0)), (11, (.gr 4 (l4 v15).length)), (12, (aI v10)), (13, (aI v11)), (15, (.sl (l2 v16))), (16, (.sl (l2 [v19, v22, v25])))] ?_
  refine AE_seqN ?_
  refine AW_seq ?_
  refine AW_reg ?_
  refine zm hT 8 [2, 7, 8, 11, 12, 13, 15, 16, 70, 73, 75] [(2, (.bool v5)), (7, (aI (IntKind.wrap .i64 (1 + (IntKind.wrap .i64 (Int.tmod v4 8)))))), (8, (.ptr 1 0)), (11, (.gr 4 (l4 v15).length)), (12, (aI v10)), (13, (aI v11)), (15, (.sl (l2 v16))), (16, (.sl (l2 [v19, v22, v25]))), (70, (.bool (v10 == v11))), (73, (.bool (decide (v10 < v11)))), (75, (.bool (v10 != 0)))] ?_
  refine zO (jL hT 4 1 [(.bool (v10 == v11)), (.bool (decide (v10 < v11))), (.bool (v10 != 0))] 5) ?_
  refine ze hT 1 [2, 7, 8, 11, 12, 13, 15, 16, 17] [(2, (.bool v5)), (7, (aI (IntKind.wrap .i64 (1 + (IntKind.wrap .i64 (Int.tmod v4 8)))))), (8, (.ptr 1 0)), (11, (.gr 4 (l4 v15).length)), (12, (aI v10)), (13, (aI v11)), (15, (.sl (l2 v16))), (16, (.sl (l2 [v19, v22, v25]))), (17, (.sl (l4 [(v10 == v11), (decide (v10 < v11)), (v10 != 0)])))] ?_
  refine AE_seqN ?_
  refine AW_seq ?_
  obtain ⟨v28, h11, h⟩ := bsm h
  try dsimp only at h
  obtain ⟨v29, h12, h⟩ := bsm h
  try dsimp only at h
  refine AW_reg ?_
  refine zm hT 1 [2, 7, 8, 11, 12, 13, 15, 16, 17, 77] [(2, (.bool v5)), (7, (aI (IntKind.wrap .i64 (1 + (IntKind.wrap .i64 (Int.tmod v4 8)))))), (8, (.ptr 1 0)), (11, (.gr 4 (l4 v15).length)), (12, (aI v10)), (13, (aI v11)), (15, (.sl (l2 v16))), (16, (.sl (l2 [v19, v22, v25]))), (17, (.sl (l4 [(v10 == v11), (decide (v10 < v11)), (v10 != 0)]))), (77, (.ptr 1 0))] ?_
  refine zO (jC Go.Proofs.Try.func16 (Fn_in (L := [.cells [(.int .u16 v1), (.int .u16 v2), (.int .u32 v3)], .cells [(.gr 2 (l75 v26).length), (.map 3)], .row false 76 2 (l75 v26), .map (mE e75 e2 v27), .row false 4 1 (l4 v15)]) (args' := [(.ptr 1 0)]) (res' := (.sl (l75 v28))) (L'' := [.cells [(.int .u16 v1), (.int .u16 v2), (.int .u32 v3)], .cells [(.gr 2 (l75 v26).length), (.map 3)], .row false 76 2 (l75 v26), .map (mE e75 e2 v27), .row false 4 1 (l4 v15)]) [1, 2, 3] (F16_ok k v26 v27 v28 h11) rfl (by decide) ⟨(by simp [AV.ren, AV.rens, AObj.ren, gname]), (by simp [AV.ren, AV.rens, AObj.ren, gname]), (by simp [AV.ren, AV.rens, AObj.ren, gname]), trivial⟩ (by simp [AV.low, AV.lows, AObj.low]) (by simp [AV.low, AV.lows, AObj.low]) (by kernel_rfl) (by simp [AV.ren, AV.rens, AObj.ren, gname, putBack]) (by simp [AV.ren, AV.rens, AObj.ren, gname, putBack]) (by simp [AV.ren, AV.rens, AObj.ren, gname, putBack]))) ?_
  refine zm hT 1 [2, 7, 8, 11, 12, 13, 15, 16, 17, 78, 79] [(2, (.bool v5)), (7, (aI (IntKind.wrap .i64 (1 + (IntKind.wrap .i64 (Int.tmod v4 8)))))), (8, (.ptr 1 0)), (11, (.gr 4 (l4 v15).length)), (12, (aI v10)), (13, (aI v11)), (15, (.sl (l2 v16))), (16, (.sl (l2 [v19, v22, v25]))), (17, (.sl (l4 [(v10 == v11), (decide (v10 < v11)), (v10 != 0)]))), (78, (.sl (l75 v28))), (79, (.gr 4 (l4 v15).length))] ?_
  refine zO (jC Go.Proofs.Try.func15 (Fn_args (args := [(.sl (l75 v28)), (.gr 4 (l4 v15).length)]) (args' := [(.sl (l75 v28)), (.sl (l4 v15))]) (fP (F15_ok k v28 v15 v29 h12)) ⟨Weak.refl, (Weak.view (e := 4) (k := 1) (xs := l4 v15) (by kernel_rfl) rfl), trivial⟩)) ?_
  refine ze hT 1 [2, 7, 8, 11, 12, 13, 15, 16, 17, 18] [(2, (.bool v5)), (7, (aI (IntKind.wrap .i64 (1 + (IntKind.wrap .i64 (Int.tmod v4 8)))))), (8, (.ptr 1 0)), (11, (.gr 4 (l4 v15).length)), (12, (aI v10)), (13, (aI v11)), (15, (.sl (l2 v16))), (16, (.sl (l2 [v19, v22, v25]))), (17, (.sl (l4 [(v10 == v11), (decide (v10 < v11)), (v10 != 0)]))), (18, (.sl (l4 v29)))] ?_
  refine AE_seqN ?_
  refine AW_seq ?_
  refine zs hT [2, 7, 8, 11, 12, 13, 15, 16, 17, 18, 19] [(2, (.bool v5)), (7, (aI (IntKind.wrap .i64 (1 + (IntKind.wrap .i64 (Int.tmod v4 8)))))), (8, (.ptr 1 0)), (11, (.gr 4 (l4 v15).length)), (12, (aI v10)), (13, (aI v11)), (15, (.sl (l2 v16))), (16, (.sl (l2 [v19, v22, v25]))), (17, (.sl (l4 [(v10 == v11), (decide (v10 < v11)), (v10 != 0)]))), (18, (.sl (l4 v29))), (19, (aI 0))] ?_
  refine AW_block ?_
  refine zKw [2, 7, 8, 11, 12, 13, 15, 16, 17, 18, 19] [(2, (.bool v5)), (7, (aI (IntKind.wrap .i64 (1 + (IntKind.wrap .i64 (Int.tmod v4 8)))))), (8, (.ptr 1 0)), (11, (.gr 4 (l4 v15).length)), (12, (aI v10)), (13, (aI v11)), (15, (.sl (l2 v16))), (16, (.sl (l2 [v19, v22, v25]))), (17, (.sl (l4 [(v10 == v11), (decide (v10 < v11)), (v10 != 0)]))), (18, (.sl (l4 v29))), (19, (aI 0))] ?_
  refine AW_loop (fun n env L => n ≤ k ∧ ∃ (v30 : Int) (v31 : Int) (v32 : (List Int)) (v33 : (List Int)) (v34 : (List Bool)) (v35 : (List Bool)) (v36 : Int) (v37 : (List T75)) (v38 : (List (T75 × Int))) (v39 : (List Bool)), env = [(2, (.bool v5)), (7, (aI (IntKind.wrap .i64 (1 + (IntKind.wrap .i64 (Int.tmod v4 8)))))), (8, (.ptr 1 0)), (11, (.gr 4 (l4 v39).length)), (12, (aI v30)), (13, (aI v31)), (15, (.sl (l2 v32))), (16, (.sl (l2 v33))), (17, (.sl (l4 v34))), (18, (.sl (l4 v35))), (19, (aI v36))] ∧ L = [.cells [(.int .u16 v1), (.int .u16 v2), (.int .u32 v3)], .cells [(.gr 2 (l75 v37).length), (.map 3)], .row false 76 2 (l75 v37), .map (mE e75 e2 v38), .row false 4 1 (l4 v39)] ∧ F3_l0 n v5 v4 v30 v31 v32 v33 v34 v35 v36 v37 v38 v39 = some (r1)) k ⟨Nat.le_refl _, v10, v11, v16, [v19, v22, v25], [(v10 == v11), (decide (v10 < v11)), (v10 != 0)], v29, 0, v26, v27, v15, rfl, rfl, h⟩ ?_
  rintro n _ _ ⟨hn, v30, v31, v32, v33, v34, v35, v36, v37, v38, v39, rfl, rfl, h⟩
  cases n with
  | zero => rw [F3_l0] at h; cases h
  | succ k13 =>
    rw [F3_l0] at h
    refine AW_seq ?_
    refine zs hT [2, 7, 8, 11, 12, 13, 15, 16, 17, 18, 19, 84] [(2, (.bool v5)), (7, (aI (IntKind.wrap .i64 (1 + (IntKind.wrap .i64 (Int.tmod v4 8)))))), (8, (.ptr 1 0)), (11, (.gr 4 (l4 v39).length)), (12, (aI v30)), (13, (aI v31)), (15, (.sl (l2 v32))), (16, (.sl (l2 v33))), (17, (.sl (l4 v34))), (18, (.sl (l4 v35))), (19, (aI v36)), (84, (.bool (decide (v36 < ((l4 v34).length : Int)))))] ?_
    rcases bif_split h with ⟨h15, h⟩ | ⟨h15, h⟩
    · refine zT h15 ?_
      refine AE_skip ?_
      refine AE_seqN ?_
      refine AW_seq ?_
      refine AW_block ?_
      refine AW_join (fun env L => ∃ (v40 : Int) (v41 : Int) (v42 : (List Int)) (v43 : (List Int)) (v44 : (List Bool)) (v45 : (List Bool)) (v46 : Int) (v47 : Bool) (v48 : (List T75)) (v49 : (List (T75 × Int))) (v50 : (List Bool)), env = [(2, (.bool v5)), (7, (aI (IntKind.wrap .i64 (1 + (IntKind.wrap .i64 (Int.tmod v4 8)))))), (8, (.ptr 1 0)), (11, (.gr 4 (l4 v50).length)), (12, (aI v40)), (13, (aI v41)), (15, (.sl (l2 v42))), (16, (.sl (l2 v43))), (17, (.sl (l4 v44))), (18, (.sl (l4 v45))), (19, (aI v46)), (104, (.bool v47))] ∧ L = [.cells [(.int .u16 v1), (.int .u16 v2), (.int .u32 v3)], .cells [(.gr 2 (l75 v48).length), (.map 3)], .row false 76 2 (l75 v48), .map (mE e75 e2 v49), .row false 4 1 (l4 v50)] ∧ ∃ n, n ≤ k13 ∧ F3_j1 n v5 v4 v40 v41 v42 v43 v44 v45 v46 v47 v48 v49 v50 = some (r1)) ?_ ?_
      · obtain ⟨v51, h16, h⟩ := bsm h
        try dsimp only at h
        rcases bif_split h with ⟨h17, h⟩ | ⟨h17, h⟩
        · refine AW_drx hmix [⟨(.sl (l2 v33)), [], 0, 0, false⟩, ⟨(aI v36), [], 0, 0, false⟩, ⟨(.rp [(aI v51)]), [0, 1], 0, 0, false⟩, ⟨(aI v51), [0, 1, 2], 0, 0, false⟩, ⟨(.bool (decide (v51 < 0))), [0, 1, 2, 3], 0, 0, false⟩, ⟨(.bool true), [0, 1, 2, 3, 4], 0, 0, false⟩, ⟨(.tup []), [0, 1, 2, 3, 4, 5], 0, 0, false⟩, ⟨(.tup []), [0, 1, 2, 3, 4, 5], 0, 0, false⟩, ⟨(.tup []), [0, 1, 2, 3, 4, 5], 0, 0, false⟩, ⟨(.tup []), [0, 1, 2, 3, 4, 5, 7, 8], 0, 0, false⟩, ⟨(.tup []), [0, 1, 2, 3, 4, 5, 7, 8, 9], 0, 0, false⟩, ⟨(.tup []), [0, 1, 2, 3, 4, 5, 6, 7, 8, 9, 10], 0, 0, false⟩, ⟨(.tup []), [0, 1, 2, 3, 4, 5], 0, 0, false⟩, ⟨(.tup []), [0, 1, 2, 3, 4, 5], 0, 0, false⟩, ⟨(.tup []), [0, 1, 2, 3, 4, 5, 12, 13], 0, 0, false⟩, ⟨(.tup []), [0, 1, 2, 3, 4, 5, 12, 13, 14], 0, 0, false⟩, ⟨(.tup []), [0, 1, 2, 3, 4, 5, 6, 7, 8, 9, 10, 11, 12, 13, 14, 15], 0, 0, false⟩, ⟨(.bool true), [0, 1, 2, 3, 4, 5, 6, 7, 8, 9, 10, 11, 12, 13, 14, 15, 16], 0, 0, false⟩] [] (fun _ => [.cells [(.int .u16 v1), (.int .u16 v2), (.int .u32 v3)], .cells [(.gr 2 (l75 v37).length), (.map 3)], .row false 76 2 (l75 v37), .map (mE e75 e2 v38), .row false 4 1 (l4 v39)]) [2, 7, 8, 11, 12, 13, 15, 16, 17, 18, 19, 104] [(2, (.bool v5)), (7, (aI (IntKind.wrap .i64 (1 + (IntKind.wrap .i64 (Int.tmod v4 8)))))), (8, (.ptr 1 0)), (11, (.gr 4 (l4 v39).length)), (12, (aI v30)), (13, (aI v31)), (15, (.sl (l2 v32))), (16, (.sl (l2 v33))), (17, (.sl (l4 v34))), (18, (.sl (l4 v35))), (19, (aI v36)), (104, (.bool true))] [.cells [(.int .u16 v1), (.int .u16 v2), (.int .u32 v3)], .cells [(.gr 2 (l75 v37).length), (.map 3)], .row false 76 2 (l75 v37), .map (mE e75 e2 v38), .row false 4 1 (l4 v39)] (by kernel_rfl) rfl rfl (by kernel_rfl) ?_ ?_
          · refine SA_plain hT 2 (by kernel_rfl) ?_
            refine SA_tell (v := (.rp [(aI v51)])) (by kernel_rfl) (by kernel_rfl) (by kernel_rfl) (fun L => (jX hT 1 (i2 h16))) ?_
            refine SA_plain hT 2 (by kernel_rfl) ?_
            refine SA_at 0 (v := (.bool true)) (Lp := [.cells [(.int .u16 v1), (.int .u16 v2), (.int .u32 v3)], .cells [(.gr 2 (l75 v37).length), (.map 3)], .row false 76 2 (l75 v37), .map (mE e75 e2 v38), .row false 4 1 (l4 v39)]) (Lq := [.cells [(.int .u16 v1), (.int .u16 v2), (.int .u32 v3)], .cells [(.gr 2 (l75 v37).length), (.map 3)], .row false 76 2 (l75 v37), .map (mE e75 e2 v38), .row false 4 1 (l4 v39)]) (by kernel_rfl) (by kernel_rfl) (by kernel_rfl) (by kernel_rfl) (by kernel_rfl) (by kernel_rfl) (jQ hT h17) ?_
            refine SA_plain hT 12 (by kernel_rfl) ?_
            exact SA_end (by kernel_rfl)
          refine zK [2, 7, 8, 11, 12, 13, 15, 16, 17, 18, 19, 104] [(2, (.bool v5)), (7, (aI (IntKind.wrap .i64 (1 + (IntKind.wrap .i64 (Int.tmod v4 8)))))), (8, (.ptr 1 0)), (11, (.gr 4 (l4 v39).length)), (12, (aI v30)), (13, (aI v31)), (15, (.sl (l2 v32))), (16, (.sl (l2 v33))), (17, (.sl (l4 v34))), (18, (.sl (l4 v35))), (19, (aI v36)), (104, (.bool true))] ?_
          exact AE_done ⟨v30, v31, v32, v33, v34, v35, v36, true, v37, v38, v39, rfl, rfl, k13, by omega, h⟩
        · obtain ⟨v52, h18, h⟩ := bsm h
          try dsimp only at h
          obtain ⟨v53, h19, h⟩ := bsm h
          try dsimp only at h
          obtain ⟨v54, h20, h⟩ := bsm h
          try dsimp only at h
          refine AW_drx hmix [⟨(.sl (l2 v33)), [], 0, 0, false⟩, ⟨(aI v36), [], 0, 0, false⟩, ⟨(.rp [(aI v51)]), [0, 1], 0, 0, false⟩, ⟨(aI v51), [0, 1, 2], 0, 0, false⟩, ⟨(.bool (decide (v51 < 0))), [0, 1, 2, 3], 0, 0, false⟩, ⟨(.bool false), [0, 1, 2, 3, 4], 0, 0, false⟩, ⟨(.sl (l4 v35)), [0, 1, 2, 3, 4, 5], 0, 0, false⟩, ⟨(.sl (l2 v33)), [0, 1, 2, 3, 4, 5], 0, 0, false⟩, ⟨(aI v36), [0, 1, 2, 3, 4, 5], 0, 0, false⟩, ⟨(.rp [(aI v52)]), [0, 1, 2, 3, 4, 5, 7, 8], 0, 0, false⟩, ⟨(aI v52), [0, 1, 2, 3, 4, 5, 7, 8, 9], 0, 0, false⟩, ⟨(.bool v53), [0, 1, 2, 3, 4, 5, 6, 7, 8, 9, 10], 0, 0, false⟩, ⟨(.sl (l4 v34)), [0, 1, 2, 3, 4, 5], 0, 0, false⟩, ⟨(aI v36), [0, 1, 2, 3, 4, 5], 0, 0, false⟩, ⟨(.rp [(.bool v54)]), [0, 1, 2, 3, 4, 5, 12, 13], 0, 0, false⟩, ⟨(.bool v54), [0, 1, 2, 3, 4, 5, 12, 13, 14], 0, 0, false⟩, ⟨(.bool (!(v53 == v54))), [0, 1, 2, 3, 4, 5, 6, 7, 8, 9, 10, 11, 12, 13, 14, 15], 0, 0, false⟩, ⟨(.bool (!(v53 == v54))), [0, 1, 2, 3, 4, 5, 6, 7, 8, 9, 10, 11, 12, 13, 14, 15, 16], 0, 0, false⟩] [] (fun _ => [.cells [(.int .u16 v1), (.int .u16 v2), (.int .u32 v3)], .cells [(.gr 2 (l75 v37).length), (.map 3)], .row false 76 2 (l75 v37), .map (mE e75 e2 v38), .row false 4 1 (l4 v39)]) [2, 7, 8, 11, 12, 13, 15, 16, 17, 18, 19, 104] [(2, (.bool v5)), (7, (aI (IntKind.wrap .i64 (1 + (IntKind.wrap .i64 (Int.tmod v4 8)))))), (8, (.ptr 1 0)), (11, (.gr 4 (l4 v39).length)), (12, (aI v30)), (13, (aI v31)), (15, (.sl (l2 v32))), (16, (.sl (l2 v33))), (17, (.sl (l4 v34))), (18, (.sl (l4 v35))), (19, (aI v36)), (104, (.bool (!(v53 == v54))))] [.cells [(.int .u16 v1), (.int .u16 v2), (.int .u32 v3)], .cells [(.gr 2 (l75 v37).length), (.map 3)], .row false 76 2 (l75 v37), .map (mE e75 e2 v38), .row false 4 1 (l4 v39)] (by kernel_rfl) rfl rfl (by kernel_rfl) ?_ ?_
          · refine SA_plain hT 2 (by kernel_rfl) ?_
            refine SA_tell (v := (.rp [(aI v51)])) (by kernel_rfl) (by kernel_rfl) (by kernel_rfl) (fun L => (jX hT 1 (i2 h16))) ?_
            refine SA_plain hT 2 (by kernel_rfl) ?_
            refine SA_at 0 (v := (.bool false)) (Lp := [.cells [(.int .u16 v1), (.int .u16 v2), (.int .u32 v3)], .cells [(.gr 2 (l75 v37).length), (.map 3)], .row false 76 2 (l75 v37), .map (mE e75 e2 v38), .row false 4 1 (l4 v39)]) (Lq := [.cells [(.int .u16 v1), (.int .u16 v2), (.int .u32 v3)], .cells [(.gr 2 (l75 v37).length), (.map 3)], .row false 76 2 (l75 v37), .map (mE e75 e2 v38), .row false 4 1 (l4 v39)]) (by kernel_rfl) (by kernel_rfl) (by kernel_rfl) (by kernel_rfl) (by kernel_rfl) (by kernel_rfl) (jQ hT h17) ?_
            refine SA_plain hT 3 (by kernel_rfl) ?_
            refine SA_tell (v := (.rp [(aI v52)])) (by kernel_rfl) (by kernel_rfl) (by kernel_rfl) (fun L => (jX hT 1 (i2 h18))) ?_
            refine SA_plain hT 1 (by kernel_rfl) ?_
            refine SA_tell (v := (.bool v53)) (by kernel_rfl) (by kernel_rfl) (by kernel_rfl) (fun L => (jP Go.Proofs.Try.func17 (F17_ok k13 v35 v52 v53 h19))) ?_
            refine SA_plain hT 2 (by kernel_rfl) ?_
            refine SA_tell (v := (.rp [(.bool v54)])) (by kernel_rfl) (by kernel_rfl) (by kernel_rfl) (fun L => (jX hT 1 (i4 h20))) ?_
            refine SA_plain hT 3 (by kernel_rfl) ?_
            exact SA_end (by kernel_rfl)
          refine zK [2, 7, 8, 11, 12, 13, 15, 16, 17, 18, 19, 104] [(2, (.bool v5)), (7, (aI (IntKind.wrap .i64 (1 + (IntKind.wrap .i64 (Int.tmod v4 8)))))), (8, (.ptr 1 0)), (11, (.gr 4 (l4 v39).length)), (12, (aI v30)), (13, (aI v31)), (15, (.sl (l2 v32))), (16, (.sl (l2 v33))), (17, (.sl (l4 v34))), (18, (.sl (l4 v35))), (19, (aI v36)), (104, (.bool (!(v53 == v54))))] ?_
          exact AE_done ⟨v30, v31, v32, v33, v34, v35, v36, (!(v53 == v54)), v37, v38, v39, rfl, rfl, k13, by omega, h⟩
      · rintro _ _ ⟨v40, v41, v42, v43, v44, v45, v46, v47, v48, v49, v50, rfl, rfl, n, hn, h⟩
        obtain _ | k21 := n
        · rw [F3_j1] at h; cases h
        rw [F3_j1] at h
        rcases bif_split h with ⟨h23, h⟩ | ⟨h23, h⟩
        · refine zT h23 ?_
          refine zs hT [6] [(6, (.bool false))] ?_
          refine AE_ret ?_
          refine AE_blkR ?_
          refine AE_seqR ?_
          refine AE_seqR ?_
          refine AE_blkR ?_
          refine AE_seqR ?_
          refine zK [6] [(6, (.bool false))] ?_
          simp only [Option.some.injEq] at h
          subst h
          exact zEnd
        · refine zN h23 ?_
          refine AE_skip ?_
          refine AE_blkN ?_
          refine AE_seqN ?_
          refine zr hT [2, 7, 8, 11, 12, 13, 15, 16, 17, 18, 19] [(2, (.bool v5)), (7, (aI (IntKind.wrap .i64 (1 + (IntKind.wrap .i64 (Int.tmod v4 8)))))), (8, (.ptr 1 0)), (11, (.gr 4 (l4 v50).length)), (12, (aI v40)), (13, (aI v41)), (15, (.sl (l2 v42))), (16, (.sl (l2 v43))), (17, (.sl (l4 v44))), (18, (.sl (l4 v45))), (19, (aI (IntKind.wrap .i64 (v46 + 1))))] ?_
          refine zK [2, 7, 8, 11, 12, 13, 15, 16, 17, 18, 19] [(2, (.bool v5)), (7, (aI (IntKind.wrap .i64 (1 + (IntKind.wrap .i64 (Int.tmod v4 8)))))), (8, (.ptr 1 0)), (11, (.gr 4 (l4 v50).length)), (12, (aI v40)), (13, (aI v41)), (15, (.sl (l2 v42))), (16, (.sl (l2 v43))), (17, (.sl (l4 v44))), (18, (.sl (l4 v45))), (19, (aI (IntKind.wrap .i64 (v46 + 1))))] ?_
          exact AE_done ⟨k21, by omega, by omega, v40, v41, v42, v43, v44, v45, (IntKind.wrap .i64 (v46 + 1)), v48, v49, v50, rfl, rfl, h⟩
    · refine zN h15 ?_
      refine AE_exit ?_
      refine AE_seqX ?_
      refine AE_seqX ?_
      refine AE_blkH ?_
      refine AE_seqN ?_
      refine zs hT [2, 7, 8, 11, 12, 15, 20] [(2, (.bool v5)), (7, (aI (IntKind.wrap .i64 (1 + (IntKind.wrap .i64 (Int.tmod v4 8)))))), (8, (.ptr 1 0)), (11, (.gr 4 (l4 v39).length)), (12, (aI v30)), (15, (.sl (l2 v32))), (20, (aI v31))] ?_
      refine AW_join (fun env L => ∃ (v55 : (List Int)) (v56 : Int) (v57 : (List T75)) (v58 : (List (T75 × Int))) (v59 : (List Bool)), env = [(7, (aI (IntKind.wrap .i64 (1 + (IntKind.wrap .i64 (Int.tmod v4 8)))))), (8, (.ptr 1 0)), (11, (.gr 4 (l4 v59).length)), (15, (.sl (l2 v55))), (20, (aI v56))] ∧ L = [.cells [(.int .u16 v1), (.int .u16 v2), (.int .u32 v3)], .cells [(.gr 2 (l75 v57).length), (.map 3)], .row false 76 2 (l75 v57), .map (mE e75 e2 v58), .row false 4 1 (l4 v59)] ∧ ∃ n, n ≤ k13 ∧ F3_j2 n v4 v55 v56 v57 v58 v59 = some (r1)) ?_ ?_
      · refine zs hT [7, 8, 11, 12, 15, 20, 106] [(7, (aI (IntKind.wrap .i64 (1 + (IntKind.wrap .i64 (Int.tmod v4 8)))))), (8, (.ptr 1 0)), (11, (.gr 4 (l4 v39).length)), (12, (aI v30)), (15, (.sl (l2 v32))), (20, (aI v31)), (106, (.bool v5))] ?_
        rcases bif_split h with ⟨h24, h⟩ | ⟨h24, h⟩
        · refine zT h24 ?_
          refine zr hT [7, 8, 11, 15, 20] [(7, (aI (IntKind.wrap .i64 (1 + (IntKind.wrap .i64 (Int.tmod v4 8)))))), (8, (.ptr 1 0)), (11, (.gr 4 (l4 v39).length)), (15, (.sl (l2 v32))), (20, (aI v30))] ?_
          refine zK [7, 8, 11, 15, 20] [(7, (aI (IntKind.wrap .i64 (1 + (IntKind.wrap .i64 (Int.tmod v4 8)))))), (8, (.ptr 1 0)), (11, (.gr 4 (l4 v39).length)), (15, (.sl (l2 v32))), (20, (aI v30))] ?_
          exact AE_done ⟨v32, v30, v37, v38, v39, rfl, rfl, k13, by omega, h⟩
        · refine zN h24 ?_
          refine AE_skip ?_
          refine zK [7, 8, 11, 15, 20] [(7, (aI (IntKind.wrap .i64 (1 + (IntKind.wrap .i64 (Int.tmod v4 8)))))), (8, (.ptr 1 0)), (11, (.gr 4 (l4 v39).length)), (15, (.sl (l2 v32))), (20, (aI v31))] ?_
          exact AE_done ⟨v32, v31, v37, v38, v39, rfl, rfl, k13, by omega, h⟩
      · rintro _ _ ⟨v55, v56, v57, v58, v59, rfl, rfl, n, hn, h⟩
        obtain ⟨k25, rfl⟩ : ∃ q, q = n := ⟨n, rfl⟩
        rw [F3_j2] at h
        refine AW_seq ?_
        obtain ⟨v60, h27, h⟩ := bsm h
        try dsimp only at h
        rcases bif_split h with ⟨h28, h⟩ | ⟨h28, h⟩
        · obtain ⟨v61, h29, h⟩ := bsm h
          try dsimp only at h
          refine AW_reg ?_
          refine zm hT 5 [108, 109, 110, 111, 112] [(108, (.ptr 1 0)), (109, (.gr 4 (l4 v59).length)), (110, (.sl (l2 v55))), (111, (aI (IntKind.wrap .i64 (1 + (IntKind.wrap .i64 (Int.tmod v4 8)))))), (112, (aI v56))] ?_
          refine zO (jC Go.Proofs.Try.func18 (Fn_args (args := [(.ptr 1 0), (.gr 4 (l4 v59).length), (.sl (l2 v55)), (aI (IntKind.wrap .i64 (1 + (IntKind.wrap .i64 (Int.tmod v4 8))))), (aI v56)]) (args' := [(.ptr 1 0), (.sl (l4 v59)), (.sl (l2 v55)), (aI (IntKind.wrap .i64 (1 + (IntKind.wrap .i64 (Int.tmod v4 8))))), (aI v56)]) (Fn_in (L := [.cells [(.int .u16 v1), (.int .u16 v2), (.int .u32 v3)], .cells [(.gr 2 (l75 v57).length), (.map 3)], .row false 76 2 (l75 v57), .map (mE e75 e2 v58), .row false 4 1 (l4 v59)]) (args' := [(.ptr 1 0), (.sl (l4 v59)), (.sl (l2 v55)), (aI (IntKind.wrap .i64 (1 + (IntKind.wrap .i64 (Int.tmod v4 8))))), (aI v56)]) (res' := (.bool v60)) (L'' := [.cells [(.int .u16 v1), (.int .u16 v2), (.int .u32 v3)], .cells [(.gr 2 (l75 v57).length), (.map 3)], .row false 76 2 (l75 v57), .map (mE e75 e2 v58), .row false 4 1 (l4 v59)]) [1, 2, 3] (F18_ok k25 v59 v55 (IntKind.wrap .i64 (1 + (IntKind.wrap .i64 (Int.tmod v4 8)))) v56 v57 v58 v60 h27) rfl (by decide) ⟨(by simp [AV.ren, AV.rens, AObj.ren, gname]), (by simp [AV.ren, AV.rens, AObj.ren, gname]), (by simp [AV.ren, AV.rens, AObj.ren, gname]), trivial⟩ (by simp [AV.low, AV.lows, AObj.low]) (by simp [AV.low, AV.lows, AObj.low]) (by kernel_rfl) (by simp [AV.ren, AV.rens, AObj.ren, gname, putBack]) (by simp [AV.ren, AV.rens, AObj.ren, gname, putBack]) (by simp [AV.ren, AV.rens, AObj.ren, gname, putBack])) ⟨Weak.refl, (Weak.view (e := 4) (k := 1) (xs := l4 v59) (by kernel_rfl) rfl), Weak.refl, Weak.refl, Weak.refl, trivial⟩)) ?_
          refine zO (jQ hT h28) ?_
          refine zO (jP Go.Proofs.Try.func19 (F19_ok k25  v61 h29)) ?_
          refine ze hT 2 [6] [(6, (.bool v61))] ?_
          refine AE_seqN ?_
          refine AE_ret ?_
          refine zK [6] [(6, (.bool v61))] ?_
          simp only [Option.some.injEq] at h
          subst h
          exact zEnd
        · refine AW_reg ?_
          refine zm hT 5 [108, 109, 110, 111, 112] [(108, (.ptr 1 0)), (109, (.gr 4 (l4 v59).length)), (110, (.sl (l2 v55))), (111, (aI (IntKind.wrap .i64 (1 + (IntKind.wrap .i64 (Int.tmod v4 8)))))), (112, (aI v56))] ?_
          refine zO (jC Go.Proofs.Try.func18 (Fn_args (args := [(.ptr 1 0), (.gr 4 (l4 v59).length), (.sl (l2 v55)), (aI (IntKind.wrap .i64 (1 + (IntKind.wrap .i64 (Int.tmod v4 8))))), (aI v56)]) (args' := [(.ptr 1 0), (.sl (l4 v59)), (.sl (l2 v55)), (aI (IntKind.wrap .i64 (1 + (IntKind.wrap .i64 (Int.tmod v4 8))))), (aI v56)]) (Fn_in (L := [.cells [(.int .u16 v1), (.int .u16 v2), (.int .u32 v3)], .cells [(.gr 2 (l75 v57).length), (.map 3)], .row false 76 2 (l75 v57), .map (mE e75 e2 v58), .row false 4 1 (l4 v59)]) (args' := [(.ptr 1 0), (.sl (l4 v59)), (.sl (l2 v55)), (aI (IntKind.wrap .i64 (1 + (IntKind.wrap .i64 (Int.tmod v4 8))))), (aI v56)]) (res' := (.bool v60)) (L'' := [.cells [(.int .u16 v1), (.int .u16 v2), (.int .u32 v3)], .cells [(.gr 2 (l75 v57).length), (.map 3)], .row false 76 2 (l75 v57), .map (mE e75 e2 v58), .row false 4 1 (l4 v59)]) [1, 2, 3] (F18_ok k25 v59 v55 (IntKind.wrap .i64 (1 + (IntKind.wrap .i64 (Int.tmod v4 8)))) v56 v57 v58 v60 h27) rfl (by decide) ⟨(by simp [AV.ren, AV.rens, AObj.ren, gname]), (by simp [AV.ren, AV.rens, AObj.ren, gname]), (by simp [AV.ren, AV.rens, AObj.ren, gname]), trivial⟩ (by simp [AV.low, AV.lows, AObj.low]) (by simp [AV.low, AV.lows, AObj.low]) (by kernel_rfl) (by simp [AV.ren, AV.rens, AObj.ren, gname, putBack]) (by simp [AV.ren, AV.rens, AObj.ren, gname, putBack]) (by simp [AV.ren, AV.rens, AObj.ren, gname, putBack])) ⟨Weak.refl, (Weak.view (e := 4) (k := 1) (xs := l4 v59) (by kernel_rfl) rfl), Weak.refl, Weak.refl, Weak.refl, trivial⟩)) ?_
          refine zO (jQ hT h28) ?_
          refine ze hT 3 [6] [(6, (.bool false))] ?_
          refine AE_seqN ?_
          refine AE_ret ?_
          refine zK [6] [(6, (.bool false))] ?_
          simp only [Option.some.injEq] at h
          subst h
          exact zEnd
end Go.Vm
