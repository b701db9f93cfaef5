/- Printed by gen.py: functions of the program as Lean functions, and that they do what these say. -/
import Derived.Test.YtjeihigmneepcaaWt
set_option linter.unusedVariables false
set_option linter.unusedSimpArgs false
set_option linter.unusedSectionVars false
set_option maxRecDepth 20000
namespace Go.Vm
def F44 (k : Nat) (v1 : Int) (v2 : Int) (v3 : (List T75)) (v4 : (List (T75 × Int))) : Option (Int × (List T75)) :=
  (bif (decide (((l75 v3).length : Int) ≥ 1048576)) then
    some ((-1), v3)
  else
    ((appL 16 v3 [(T75.mk v1 v2)]).bind fun v5 =>
      some ((IntKind.wrap .i64 (2 * ((l75 v5).length : Int))), v5)))

theorem F44_ok (k : Nat) : ∀ (v1 : Int) (v2 : Int) (v3 : (List T75)) (v4 : (List (T75 × Int))) (r1 : Int) (r2 : (List T75)), F44 k v1 v2 v3 v4 = some (r1, r2) → Fn prog 44 [(.ptr 0 0), (.agg [(aI v1), (aI v2)])] [.cells [(.gr 1 (l75 v3).length), (.map 2)], .row false 76 2 (l75 v3), .map (mE e75 e2 v4)] (aI r1) [.cells [(.gr 1 (l75 r2).length), (.map 2)], .row false 76 2 (l75 r2), .map (mE e75 e2 v4)] := by
  intro v1 v2 v3 v4 r1 r2 h
  rw [F44] at h
  refine Fn_bodyK hT Go.Proofs.Try.func44 (c := Go.Proofs.Try.f44.body.getD .skip) (by kernel_rfl) (by kernel_rfl) (by kernel_rfl) ?_
  refine zS hT [0, 3] [(0, (.ptr 0 0)), (3, (.ptr 3 0))] [.cells [(.gr 1 (l75 v3).length), (.map 2)], .row false 76 2 (l75 v3), .map (mE e75 e2 v4), .cells [(aI v1), (aI v2)]] ?_
  refine AW_seq ?_
  refine zs hT [0, 3, 10] [(0, (.ptr 0 0)), (3, (.ptr 3 0)), (10, (.bool (decide (((l75 v3).length : Int) ≥ 1048576))))] ?_
  rcases bif_split h with ⟨h1, h⟩ | ⟨h1, h⟩
  · refine zT h1 ?_
    refine zs hT [4] [(4, (aI (-1)))] ?_
    refine AE_ret ?_
    refine AE_seqR ?_
    refine zK [4] [(4, (aI (-1)))] ?_
    simp only [Option.some.injEq, Prod.mk.injEq] at h
    obtain ⟨rfl, rfl⟩ := h
    exact zEnd
  · refine zN h1 ?_
    refine AE_skip ?_
    refine AE_seqN ?_
    refine AW_seq ?_
    obtain ⟨v5, h2, h⟩ := bsm h
    try dsimp only at h
    refine AW_drx hmix [⟨(.ptr 0 0), [], 0, 1, false⟩, ⟨(.ptr 0 0), [], 0, 0, false⟩, ⟨(.ptr 0 0), [1], 0, 0, false⟩, ⟨(.ptr 0 0), [1, 2], 0, 0, false⟩, ⟨(.gr 1 (l75 v3).length), [1, 2, 3], 0, 0, false⟩, ⟨(.agg [(aI v1), (aI v2)]), [], 0, 0, false⟩, ⟨(.sl (l75 [(T75.mk v1 v2)])), [5], 0, 0, false⟩, ⟨(.gr 1 (l75 v5).length), [1, 2, 3, 4, 5, 6], 0, 0, true⟩, ⟨(.ptr 0 0), [0, 1, 2, 3, 4, 5, 6, 7], 1, 1, false⟩, ⟨(.ptr 0 0), [0, 1, 2, 3, 4, 5, 6, 7, 8], 1, 1, false⟩, ⟨.any, [0, 1, 2, 3, 4, 5, 6, 7, 8, 9], 1, 1, true⟩] [7, 10] (fun p => match p with | 0 => [.cells [(.gr 1 (l75 v3).length), (.map 2)], .row false 76 2 (l75 v3), .map (mE e75 e2 v4), .cells [(aI v1), (aI v2)]] | 1 => [.cells [(.gr 1 (l75 v3).length), (.map 2)], .row false 76 2 (l75 v5), .map (mE e75 e2 v4), .cells [(aI v1), (aI v2)]] | _ => [.cells [(.gr 1 (l75 v5).length), (.map 2)], .row false 76 2 (l75 v5), .map (mE e75 e2 v4), .cells [(aI v1), (aI v2)]]) [0] [(0, (.ptr 0 0))] [.cells [(.gr 1 (l75 v5).length), (.map 2)], .row false 76 2 (l75 v5), .map (mE e75 e2 v4), .cells [(aI v1), (aI v2)]] (by kernel_rfl) rfl rfl (by kernel_rfl) ?_ ?_
    · refine SA_plain hT 6 (by kernel_rfl) ?_
      refine SA_at 0 (v := (.sl (l75 [(T75.mk v1 v2)]))) (Lp := [.cells [(.gr 1 (l75 v3).length), (.map 2)], .row false 76 2 (l75 v3), .map (mE e75 e2 v4), .cells [(aI v1), (aI v2)]]) (Lq := [.cells [(.gr 1 (l75 v3).length), (.map 2)], .row false 76 2 (l75 v3), .map (mE e75 e2 v4), .cells [(aI v1), (aI v2)]]) (by kernel_rfl) (by kernel_rfl) (by kernel_rfl) (by kernel_rfl) (by kernel_rfl) (by kernel_rfl) (jL hT 76 2 [(.agg [(aI v1), (aI v2)])] 4) ?_
      refine SA_at 0 (v := (.gr 1 (l75 v5).length)) (Lp := [.cells [(.gr 1 (l75 v3).length), (.map 2)], .row false 76 2 (l75 v3), .map (mE e75 e2 v4), .cells [(aI v1), (aI v2)]]) (Lq := [.cells [(.gr 1 (l75 v3).length), (.map 2)], .row false 76 2 (l75 v5), .map (mE e75 e2 v4), .cells [(aI v1), (aI v2)]]) (by kernel_rfl) (by kernel_rfl) (by kernel_rfl) (by kernel_rfl) (by kernel_rfl) (by kernel_rfl) (jA hT l75_map e75_k e75_one [.cells [(.gr 1 (l75 v3).length), (.map 2)], .row false 76 2 (l75 v5), .map (mE e75 e2 v4), .cells [(aI v1), (aI v2)]] false 76 (.gr 1 (l75 v3).length) (.sl (l75 [(T75.mk v1 v2)])) 1 (l75 v3).length Weak.refl rfl Weak.refl h2) ?_
      refine SA_plain hT 3 (by kernel_rfl) ?_
      exact SA_end (by kernel_rfl)
    refine AE_seqN ?_
    refine zs hT [4] [(4, (aI (IntKind.wrap .i64 (2 * ((l75 v5).length : Int)))))] ?_
    refine AE_ret ?_
    refine zK [4] [(4, (aI (IntKind.wrap .i64 (2 * ((l75 v5).length : Int)))))] ?_
    simp only [Option.some.injEq, Prod.mk.injEq] at h
    obtain ⟨rfl, rfl⟩ := h
    exact zEnd

def F45 (k : Nat) : Option (Int × Int) :=
  some ((-1), (-1))

theorem F45_ok (k : Nat) : ∀  (r1 : Int) (r2 : Int), F45 k = some (r1, r2) → Fn prog 45 [] [] (.agg [(aI r1), (aI r2)]) [] := by
  intro r1 r2 h
  rw [F45] at h
  refine Fn_bodyK hT Go.Proofs.Try.func45 (c := Go.Proofs.Try.f45.body.getD .skip) (by kernel_rfl) (by kernel_rfl) (by kernel_rfl) ?_
  refine zS hT [0] [(0, (.ptr 0 0))] [.cells [(aI 0), (aI 0)]] ?_
  refine zS hT [0] [(0, (.ptr 0 0))] [.cells [(aI (-1)), (aI (-1))]] ?_
  refine AE_ret ?_
  refine zK [0] [(0, (.ptr 0 0))] ?_
  simp only [Option.some.injEq, Prod.mk.injEq] at h
  obtain ⟨rfl, rfl⟩ := h
  exact zEnd

def F10_j0 (k1 : Nat) (v1 : (List T75)) (v2 : (List (T75 × Int))) : Option (Int × (List T75)) :=
  ((F45 k1 ).bind fun ⟨v3, v4⟩ =>
    ((F44 k1 v3 v4 v1 v2).bind fun ⟨v5, v6⟩ =>
      some (v5, v6)))

def F10 (k : Nat) (v1 : (List T75)) (v2 : (List (T75 × Int))) : Option (Int × (List T75)) :=
  F10_j0 k v1 v2

theorem F10_ok (k : Nat) : ∀ (v1 : (List T75)) (v2 : (List (T75 × Int))) (r1 : Int) (r2 : (List T75)), F10 k v1 v2 = some (r1, r2) → Fn prog 10 [(.ptr 0 0)] [.cells [(.gr 1 (l75 v1).length), (.map 2)], .row false 76 2 (l75 v1), .map (mE e75 e2 v2)] (aI r1) [.cells [(.gr 1 (l75 r2).length), (.map 2)], .row false 76 2 (l75 r2), .map (mE e75 e2 v2)] := by
  intro v1 v2 r1 r2 h
  rw [F10] at h
  refine Fn_bodyK hT Go.Proofs.Try.func10 (c := Go.Proofs.Try.f10.body.getD .skip) (by kernel_rfl) (by kernel_rfl) (by kernel_rfl) ?_
  refine zs hT [0] [(0, (.ptr 0 0))] ?_
  refine AW_seq ?_
  refine AW_join (fun env L => ∃ (_ : Unit), env = [(0, (.ptr 0 0)), (11, (.bool false))] ∧ L = [.cells [(.gr 1 (l75 v1).length), (.map 2)], .row false 76 2 (l75 v1), .map (mE e75 e2 v2)] ∧ ∃ n, n ≤ k ∧ F10_j0 n v1 v2 = some (r1, r2)) ?_ ?_
  · refine zr hT [0, 11] [(0, (.ptr 0 0)), (11, (.bool false))] ?_
    refine zK [0, 11] [(0, (.ptr 0 0)), (11, (.bool false))] ?_
    exact AE_done ⟨(), rfl, rfl, k, by omega, h⟩
  · rintro _ _ ⟨_, rfl, rfl, n, hn, h⟩
    obtain ⟨k1, rfl⟩ : ∃ q, q = n := ⟨n, rfl⟩
    rw [F10_j0] at h
    refine zN (q := false) rfl ?_
    refine AE_skip ?_
    refine AE_seqN ?_
    refine AW_seq ?_
    obtain ⟨⟨v3, v4⟩, h3, h⟩ := bsm h
    try dsimp only at h
    obtain ⟨⟨v5, v6⟩, h4, h⟩ := bsm h
    try dsimp only at h
    refine AW_reg ?_
    refine zm hT 1 [12] [(12, (.ptr 0 0))] ?_
    refine zO (jP Go.Proofs.Try.func45 (F45_ok k1  v3 v4 h3)) ?_
    refine zO (jC Go.Proofs.Try.func44 (Fn_in (L := [.cells [(.gr 1 (l75 v1).length), (.map 2)], .row false 76 2 (l75 v1), .map (mE e75 e2 v2)]) (args' := [(.ptr 0 0), (.agg [(aI v3), (aI v4)])]) (res' := (aI v5)) (L'' := [.cells [(.gr 1 (l75 v6).length), (.map 2)], .row false 76 2 (l75 v6), .map (mE e75 e2 v2)]) [0, 1, 2] (F44_ok k1 v3 v4 v1 v2 v5 v6 h4) rfl (by decide) ⟨(by simp [AV.ren, AV.rens, AObj.ren, gname]), (by simp [AV.ren, AV.rens, AObj.ren, gname]), (by simp [AV.ren, AV.rens, AObj.ren, gname]), trivial⟩ (by simp [AV.low, AV.lows, AObj.low]) (by simp [AV.low, AV.lows, AObj.low]) (by kernel_rfl) (by simp [AV.ren, AV.rens, AObj.ren, gname, putBack]) (by simp [AV.ren, AV.rens, AObj.ren, gname, putBack]) (by simp [AV.ren, AV.rens, AObj.ren, gname, putBack]))) ?_
    refine ze hT 1 [2] [(2, (aI v5))] ?_
    refine AE_seqN ?_
    refine AE_ret ?_
    refine zK [2] [(2, (aI v5))] ?_
    simp only [Option.some.injEq, Prod.mk.injEq] at h
    obtain ⟨rfl, rfl⟩ := h
    exact zEnd

def F46 (k : Nat) (v1 : Int) (v2 : (List T75)) (v3 : (List (T75 × Int))) : Option (Bool) :=
  (bif (decide (v1 ≥ 0)) then
    some ((decide (v1 ≤ (IntKind.wrap .i64 ((IntKind.wrap .i64 (2 * ((l75 v2).length : Int))) + 1)))))
  else
    some (false))

theorem F46_ok (k : Nat) : ∀ (v1 : Int) (v2 : (List T75)) (v3 : (List (T75 × Int))) (r1 : Bool), F46 k v1 v2 v3 = some (r1) → Fn prog 46 [(.ptr 0 0), (aI v1)] [.cells [(.gr 1 (l75 v2).length), (.map 2)], .row false 76 2 (l75 v2), .map (mE e75 e2 v3)] (.bool r1) [.cells [(.gr 1 (l75 v2).length), (.map 2)], .row false 76 2 (l75 v2), .map (mE e75 e2 v3)] := by
  intro v1 v2 v3 r1 h
  rw [F46] at h
  refine Fn_bodyK hT Go.Proofs.Try.func46 (c := Go.Proofs.Try.f46.body.getD .skip) (by kernel_rfl) (by kernel_rfl) (by kernel_rfl) ?_
  refine zs hT [0, 1] [(0, (.ptr 0 0)), (1, (aI v1))] ?_
  refine AW_seq ?_
  rcases bif_split h with ⟨h1, h⟩ | ⟨h1, h⟩
  · refine AW_reg ?_
    refine zm hT 13 [0, 1, 17] [(0, (.ptr 0 0)), (1, (aI v1)), (17, (.bool (decide (v1 ≥ 0))))] ?_
    refine zO (jQ hT h1) ?_
    refine ze hT 11 [4] [(4, (.bool (decide (v1 ≤ (IntKind.wrap .i64 ((IntKind.wrap .i64 (2 * ((l75 v2).length : Int))) + 1))))))] ?_
    refine AE_seqN ?_
    refine AE_ret ?_
    refine zK [4] [(4, (.bool (decide (v1 ≤ (IntKind.wrap .i64 ((IntKind.wrap .i64 (2 * ((l75 v2).length : Int))) + 1))))))] ?_
    simp only [Option.some.injEq] at h
    subst h
    exact zEnd
  · refine AW_reg ?_
    refine zm hT 13 [0, 1, 17] [(0, (.ptr 0 0)), (1, (aI v1)), (17, (.bool (decide (v1 ≥ 0))))] ?_
    refine zO (jQ hT h1) ?_
    refine ze hT 11 [4] [(4, (.bool false))] ?_
    refine AE_seqN ?_
    refine AE_ret ?_
    refine zK [4] [(4, (.bool false))] ?_
    simp only [Option.some.injEq] at h
    subst h
    exact zEnd

def F84 (k : Nat) (v1 : Int) (v2 : (List T75)) (v3 : (List (T75 × Int))) : Option (Int × Int × Bool) :=
  (bif (decide (v1 < 2)) then
    some (0, 0, false)
  else
    ((idx v2 (IntKind.wrap .i64 ((IntKind.wrap .i64 (Int.tdiv v1 2)) - 1))).bind fun ⟨v4, v5⟩ =>
      ((F45 k ).bind fun ⟨v6, v7⟩ =>
        some (v4, v5, (!((v4 == v6) && ((v5 == v7) && true)))))))

theorem F84_ok (k : Nat) : ∀ (v1 : Int) (v2 : (List T75)) (v3 : (List (T75 × Int))) (r1 : Int) (r2 : Int) (r3 : Bool), F84 k v1 v2 v3 = some (r1, r2, r3) → Fn prog 84 [(.ptr 0 0), (aI v1)] [.cells [(.gr 1 (l75 v2).length), (.map 2)], .row false 76 2 (l75 v2), .map (mE e75 e2 v3)] (.tup [(aI r1), (aI r2), (.bool r3)]) [.cells [(.gr 1 (l75 v2).length), (.map 2)], .row false 76 2 (l75 v2), .map (mE e75 e2 v3)] := by
  intro v1 v2 v3 r1 r2 r3 h
  rw [F84] at h
  refine Fn_bodyK hT Go.Proofs.Try.func84 (c := Go.Proofs.Try.f84.body.getD .skip) (by kernel_rfl) (by kernel_rfl) (by kernel_rfl) ?_
  refine zs hT [0, 1] [(0, (.ptr 0 0)), (1, (aI v1))] ?_
  refine AW_seq ?_
  refine zs hT [0, 1, 9] [(0, (.ptr 0 0)), (1, (aI v1)), (9, (.bool (decide (v1 < 2))))] ?_
  rcases bif_split h with ⟨h1, h⟩ | ⟨h1, h⟩
  · refine zT h1 ?_
    refine zs hT [4, 5, 6] [(4, (aI 0)), (5, (aI 0)), (6, (.bool false))] ?_
    refine AE_ret ?_
    refine AE_seqR ?_
    refine zK [4, 5, 6] [(4, (aI 0)), (5, (aI 0)), (6, (.bool false))] ?_
    simp only [Option.some.injEq, Prod.mk.injEq] at h
    obtain ⟨rfl, rfl, rfl⟩ := h
    exact zEnd
  · refine zN h1 ?_
    refine AE_skip ?_
    refine AE_seqN ?_
    refine AW_seq ?_
    obtain ⟨⟨v4, v5⟩, h2, h⟩ := bsm h
    try dsimp only at h
    refine AW_reg ?_
    refine zm hT 7 [13, 16] [(13, (.gr 1 (l75 v2).length)), (16, (aI (IntKind.wrap .i64 ((IntKind.wrap .i64 (Int.tdiv v1 2)) - 1))))] ?_
    refine zO (OpJ_pre (t := 13) (v0 := (.gr 1 (l75 v2).length)) (v1 := (.sl (l75 v2))) (by kernel_rfl) (Weak.view (e := 76) (k := 2) (xs := l75 v2) (by kernel_rfl) rfl) (jX hT 2 (i75 h2))) ?_
    refine zE hT 3 [7] [(7, (.ptr 3 0))] [.cells [(.gr 1 (l75 v2).length), (.map 2)], .row false 76 2 (l75 v2), .map (mE e75 e2 v3), .cells [(aI v4), (aI v5)]] ?_
    refine AE_seqN ?_
    refine AW_seq ?_
    obtain ⟨⟨v6, v7⟩, h3, h⟩ := bsm h
    try dsimp only at h
    refine AW_drx hmix [⟨(.ptr 3 0), [], 0, 0, false⟩, ⟨(aI v4), [0], 0, 0, false⟩, ⟨(.ptr 3 1), [], 0, 0, false⟩, ⟨(aI v5), [2], 0, 0, false⟩, ⟨(.agg [(aI v4), (aI v5)]), [], 0, 0, false⟩, ⟨(.agg [(aI v6), (aI v7)]), [], 0, 0, false⟩, ⟨(.bool (!((v4 == v6) && ((v5 == v7) && true)))), [4, 5], 0, 0, false⟩, ⟨(aI v4), [0, 1, 5], 0, 0, false⟩, ⟨(aI v5), [0, 1, 2, 3, 5, 7], 0, 0, false⟩, ⟨(.bool (!((v4 == v6) && ((v5 == v7) && true)))), [0, 1, 2, 3, 4, 5, 6, 7, 8], 0, 0, false⟩] [] (fun _ => [.cells [(.gr 1 (l75 v2).length), (.map 2)], .row false 76 2 (l75 v2), .map (mE e75 e2 v3), .cells [(aI v4), (aI v5)]]) [4, 5, 6] [(4, (aI v4)), (5, (aI v5)), (6, (.bool (!((v4 == v6) && ((v5 == v7) && true)))))] [.cells [(.gr 1 (l75 v2).length), (.map 2)], .row false 76 2 (l75 v2), .map (mE e75 e2 v3), .cells [(aI v4), (aI v5)]] (by kernel_rfl) rfl rfl (by kernel_rfl) ?_ ?_
    · refine SA_plain hT 5 (by kernel_rfl) ?_
      refine SA_tell (v := (.agg [(aI v6), (aI v7)])) (by kernel_rfl) (by kernel_rfl) (by kernel_rfl) (fun L => (jP Go.Proofs.Try.func45 (F45_ok k  v6 v7 h3))) ?_
      refine SA_tell (v := (.bool (!((v4 == v6) && ((v5 == v7) && true))))) (by kernel_rfl) (by kernel_rfl) (by kernel_rfl) (fun L => (OpJ_eqE hT (t := 76) (x := [(aI v4), (aI v5)]) (y := [(aI v6), (aI v7)]) true (by kernel_rfl) flat76 (by kernel_rfl))) ?_
      refine SA_plain hT 3 (by kernel_rfl) ?_
      exact SA_end (by kernel_rfl)
    refine AE_seqN ?_
    refine AE_ret ?_
    refine zK [4, 5, 6] [(4, (aI v4)), (5, (aI v5)), (6, (.bool (!((v4 == v6) && ((v5 == v7) && true)))))] ?_
    simp only [Option.some.injEq, Prod.mk.injEq] at h
    obtain ⟨rfl, rfl, rfl⟩ := h
    exact zEnd

def F78_j2 (k11 : Nat) (v10 : Bool) : Option (Int × Bool) :=
  (bif v10 then
    some (0, true)
  else
    some (0, false))

def F78_j1 (k7 : Nat) (v1 : Int) (v2 : Int) (v5 : Int) (v6 : Int) (v9 : Bool) : Option (Int × Bool) :=
  (bif v9 then
    some (v2, true)
  else
    (bif ((bits .xor .i64 v1 1) == v5) then
      F78_j2 k7 true
    else
      F78_j2 k7 ((bits .xor .i64 v1 1) == v6)))

def F78_j0 (k3 : Nat) (v1 : Int) (v2 : Int) (v5 : Int) (v6 : Int) (v8 : Bool) : Option (Int × Bool) :=
  (bif v8 then
    some (0, false)
  else
    (bif (v1 == v5) then
      F78_j1 k3 v1 v2 v5 v6 true
    else
      F78_j1 k3 v1 v2 v5 v6 (v1 == v6)))

def F78 (k : Nat) (v1 : Int) (v2 : Int) (v3 : (List T75)) (v4 : (List (T75 × Int))) : Option (Int × Bool) :=
  ((F84 k v2 v3 v4).bind fun ⟨v5, v6, v7⟩ =>
    (bif (!v7) then
      F78_j0 k v1 v2 v5 v6 true
    else
      F78_j0 k v1 v2 v5 v6 ((Int.tmod v2 2) == 1)))

theorem F78_ok (k : Nat) : ∀ (v1 : Int) (v2 : Int) (v3 : (List T75)) (v4 : (List (T75 × Int))) (r1 : Int) (r2 : Bool), F78 k v1 v2 v3 v4 = some (r1, r2) → Fn prog 78 [(.ptr 0 0), (aI v1), (aI v2)] [.cells [(.gr 1 (l75 v3).length), (.map 2)], .row false 76 2 (l75 v3), .map (mE e75 e2 v4)] (.tup [(aI r1), (.bool r2)]) [.cells [(.gr 1 (l75 v3).length), (.map 2)], .row false 76 2 (l75 v3), .map (mE e75 e2 v4)] := by
  intro v1 v2 v3 v4 r1 r2 h
  rw [F78] at h
  refine Fn_bodyK hT Go.Proofs.Try.func78 (c := Go.Proofs.Try.f78.body.getD .skip) (by kernel_rfl) (by kernel_rfl) (by kernel_rfl) ?_
  refine zs hT [0, 1, 2] [(0, (.ptr 0 0)), (1, (aI v1)), (2, (aI v2))] ?_
  refine AW_seq ?_
  obtain ⟨⟨v5, v6, v7⟩, h1, h⟩ := bsm h
  try dsimp only at h
  refine AW_reg ?_
  refine zm hT 2 [1, 2, 12, 13] [(1, (aI v1)), (2, (aI v2)), (12, (.ptr 0 0)), (13, (aI v2))] ?_
  refine zO (jC Go.Proofs.Try.func84 (Fn_in (L := [.cells [(.gr 1 (l75 v3).length), (.map 2)], .row false 76 2 (l75 v3), .map (mE e75 e2 v4)]) (args' := [(.ptr 0 0), (aI v2)]) (res' := (.tup [(aI v5), (aI v6), (.bool v7)])) (L'' := [.cells [(.gr 1 (l75 v3).length), (.map 2)], .row false 76 2 (l75 v3), .map (mE e75 e2 v4)]) [0, 1, 2] (F84_ok k v2 v3 v4 v5 v6 v7 h1) rfl (by decide) ⟨(by simp [AV.ren, AV.rens, AObj.ren, gname]), (by simp [AV.ren, AV.rens, AObj.ren, gname]), (by simp [AV.ren, AV.rens, AObj.ren, gname]), trivial⟩ (by simp [AV.low, AV.lows, AObj.low]) (by simp [AV.low, AV.lows, AObj.low]) (by kernel_rfl) (by simp [AV.ren, AV.rens, AObj.ren, gname, putBack]) (by simp [AV.ren, AV.rens, AObj.ren, gname, putBack]) (by simp [AV.ren, AV.rens, AObj.ren, gname, putBack]))) ?_
  refine ze hT 7 [1, 2, 8, 9, 10] [(1, (aI v1)), (2, (aI v2)), (8, (aI v5)), (9, (aI v6)), (10, (.bool v7))] ?_
  refine AE_seqN ?_
  refine AW_seq ?_
  refine AW_block ?_
  refine AW_join (fun env L => ∃ (v8 : Bool), env = [(1, (aI v1)), (2, (aI v2)), (8, (aI v5)), (9, (aI v6)), (18, (.bool v8))] ∧ L = [.cells [(.gr 1 (l75 v3).length), (.map 2)], .row false 76 2 (l75 v3), .map (mE e75 e2 v4)] ∧ ∃ n, n ≤ k ∧ F78_j0 n v1 v2 v5 v6 v8 = some (r1, r2)) ?_ ?_
  · rcases bif_split h with ⟨h2, h⟩ | ⟨h2, h⟩
    · refine AW_reg ?_
      refine zm hT 2 [1, 2, 8, 9, 20] [(1, (aI v1)), (2, (aI v2)), (8, (aI v5)), (9, (aI v6)), (20, (.bool (!v7)))] ?_
      refine zO (jQ hT h2) ?_
      refine ze hT 5 [1, 2, 8, 9, 18] [(1, (aI v1)), (2, (aI v2)), (8, (aI v5)), (9, (aI v6)), (18, (.bool true))] ?_
      refine zK [1, 2, 8, 9, 18] [(1, (aI v1)), (2, (aI v2)), (8, (aI v5)), (9, (aI v6)), (18, (.bool true))] ?_
      exact AE_done ⟨true, rfl, rfl, k, by omega, h⟩
    · refine AW_reg ?_
      refine zm hT 2 [1, 2, 8, 9, 20] [(1, (aI v1)), (2, (aI v2)), (8, (aI v5)), (9, (aI v6)), (20, (.bool (!v7)))] ?_
      refine zO (jQ hT h2) ?_
      refine ze hT 5 [1, 2, 8, 9, 18] [(1, (aI v1)), (2, (aI v2)), (8, (aI v5)), (9, (aI v6)), (18, (.bool ((Int.tmod v2 2) == 1)))] ?_
      refine zK [1, 2, 8, 9, 18] [(1, (aI v1)), (2, (aI v2)), (8, (aI v5)), (9, (aI v6)), (18, (.bool ((Int.tmod v2 2) == 1)))] ?_
      exact AE_done ⟨((Int.tmod v2 2) == 1), rfl, rfl, k, by omega, h⟩
  · rintro _ _ ⟨v8, rfl, rfl, n, hn, h⟩
    obtain ⟨k3, rfl⟩ : ∃ q, q = n := ⟨n, rfl⟩
    rw [F78_j0] at h
    rcases bif_split h with ⟨h5, h⟩ | ⟨h5, h⟩
    · refine zT h5 ?_
      refine zs hT [6, 7] [(6, (aI 0)), (7, (.bool false))] ?_
      refine AE_ret ?_
      refine AE_blkR ?_
      refine AE_seqR ?_
      refine zK [6, 7] [(6, (aI 0)), (7, (.bool false))] ?_
      simp only [Option.some.injEq, Prod.mk.injEq] at h
      obtain ⟨rfl, rfl⟩ := h
      exact zEnd
    · refine zN h5 ?_
      refine AW_join (fun env L => ∃ (v9 : Bool), env = [(1, (aI v1)), (2, (aI v2)), (8, (aI v5)), (9, (aI v6)), (26, (.bool v9))] ∧ L = [.cells [(.gr 1 (l75 v3).length), (.map 2)], .row false 76 2 (l75 v3), .map (mE e75 e2 v4)] ∧ ∃ n, n ≤ k3 ∧ F78_j1 n v1 v2 v5 v6 v9 = some (r1, r2)) ?_ ?_
      · rcases bif_split h with ⟨h6, h⟩ | ⟨h6, h⟩
        · refine AW_reg ?_
          refine zm hT 3 [1, 2, 8, 9, 29] [(1, (aI v1)), (2, (aI v2)), (8, (aI v5)), (9, (aI v6)), (29, (.bool (v1 == v5)))] ?_
          refine zO (jQ hT h6) ?_
          refine ze hT 5 [1, 2, 8, 9, 26] [(1, (aI v1)), (2, (aI v2)), (8, (aI v5)), (9, (aI v6)), (26, (.bool true))] ?_
          refine zK [1, 2, 8, 9, 26] [(1, (aI v1)), (2, (aI v2)), (8, (aI v5)), (9, (aI v6)), (26, (.bool true))] ?_
          exact AE_done ⟨true, rfl, rfl, k3, by omega, h⟩
        · refine AW_reg ?_
          refine zm hT 3 [1, 2, 8, 9, 29] [(1, (aI v1)), (2, (aI v2)), (8, (aI v5)), (9, (aI v6)), (29, (.bool (v1 == v5)))] ?_
          refine zO (jQ hT h6) ?_
          refine ze hT 5 [1, 2, 8, 9, 26] [(1, (aI v1)), (2, (aI v2)), (8, (aI v5)), (9, (aI v6)), (26, (.bool (v1 == v6)))] ?_
          refine zK [1, 2, 8, 9, 26] [(1, (aI v1)), (2, (aI v2)), (8, (aI v5)), (9, (aI v6)), (26, (.bool (v1 == v6)))] ?_
          exact AE_done ⟨(v1 == v6), rfl, rfl, k3, by omega, h⟩
      · rintro _ _ ⟨v9, rfl, rfl, n, hn, h⟩
        obtain ⟨k7, rfl⟩ : ∃ q, q = n := ⟨n, rfl⟩
        rw [F78_j1] at h
        rcases bif_split h with ⟨h9, h⟩ | ⟨h9, h⟩
        · refine zT h9 ?_
          refine zs hT [6, 7] [(6, (aI v2)), (7, (.bool true))] ?_
          refine AE_ret ?_
          refine AE_blkR ?_
          refine AE_seqR ?_
          refine zK [6, 7] [(6, (aI v2)), (7, (.bool true))] ?_
          simp only [Option.some.injEq, Prod.mk.injEq] at h
          obtain ⟨rfl, rfl⟩ := h
          exact zEnd
        · refine zN h9 ?_
          refine AW_join (fun env L => ∃ (v10 : Bool), env = [(36, (.bool v10))] ∧ L = [.cells [(.gr 1 (l75 v3).length), (.map 2)], .row false 76 2 (l75 v3), .map (mE e75 e2 v4)] ∧ ∃ n, n ≤ k7 ∧ F78_j2 n v10 = some (r1, r2)) ?_ ?_
          · rcases bif_split h with ⟨h10, h⟩ | ⟨h10, h⟩
            · refine AW_reg ?_
              refine zm hT 4 [1, 9, 40] [(1, (aI v1)), (9, (aI v6)), (40, (.bool ((bits .xor .i64 v1 1) == v5)))] ?_
              refine zO (jQ hT h10) ?_
              refine ze hT 6 [36] [(36, (.bool true))] ?_
              refine zK [36] [(36, (.bool true))] ?_
              exact AE_done ⟨true, rfl, rfl, k7, by omega, h⟩
            · refine AW_reg ?_
              refine zm hT 4 [1, 9, 40] [(1, (aI v1)), (9, (aI v6)), (40, (.bool ((bits .xor .i64 v1 1) == v5)))] ?_
              refine zO (jQ hT h10) ?_
              refine ze hT 6 [36] [(36, (.bool ((bits .xor .i64 v1 1) == v6)))] ?_
              refine zK [36] [(36, (.bool ((bits .xor .i64 v1 1) == v6)))] ?_
              exact AE_done ⟨((bits .xor .i64 v1 1) == v6), rfl, rfl, k7, by omega, h⟩
          · rintro _ _ ⟨v10, rfl, rfl, n, hn, h⟩
            obtain ⟨k11, rfl⟩ : ∃ q, q = n := ⟨n, rfl⟩
            rw [F78_j2] at h
            rcases bif_split h with ⟨h13, h⟩ | ⟨h13, h⟩
            · refine zT h13 ?_
              refine zs hT [6, 7] [(6, (aI 0)), (7, (.bool true))] ?_
              refine AE_ret ?_
              refine AE_blkR ?_
              refine AE_seqR ?_
              refine zK [6, 7] [(6, (aI 0)), (7, (.bool true))] ?_
              simp only [Option.some.injEq, Prod.mk.injEq] at h
              obtain ⟨rfl, rfl⟩ := h
              exact zEnd
            · refine zN h13 ?_
              refine AE_skip ?_
              refine AE_blkN ?_
              refine AE_seqN ?_
              refine zs hT [6, 7] [(6, (aI 0)), (7, (.bool false))] ?_
              refine AE_ret ?_
              refine zK [6, 7] [(6, (aI 0)), (7, (.bool false))] ?_
              simp only [Option.some.injEq, Prod.mk.injEq] at h
              obtain ⟨rfl, rfl⟩ := h
              exact zEnd

mutual
def F65 : Nat → Int → Int → (List T75) → (List (T75 × Int)) → Option (Int × (List T75) × (List (T75 × Int)))
  | 0, _, _, _, _ => none
  | k + 1, v1, v2, v3, v4 =>
    ((F46 k v1 v3 v4).bind fun v6 =>
      (bif (!v6) then
        F65_j0 k v1 v2 v3 v4 true
      else
        ((F46 k v2 v3 v4).bind fun v7 =>
          F65_j0 k v1 v2 v3 v4 (!v7))))
def F65_j0 : Nat → Int → Int → (List T75) → (List (T75 × Int)) → Bool → Option (Int × (List T75) × (List (T75 × Int)))
  | 0, _, _, _, _, _ => none
  | k4 + 1, v1, v2, v3, v4, v5 =>
    (bif v5 then
      some ((-1), v3, v4)
    else
      (bif ((if v2 < v1 then v2 else v1) == 0) then
        F65_j1 k4 v2 v1 v3 v4 true
      else
        F65_j1 k4 v2 v1 v3 v4 ((bits .xor .i64 (if v2 < v1 then v2 else v1) 1) == (if v2 > v1 then v2 else v1))))
def F65_j1 : Nat → Int → Int → (List T75) → (List (T75 × Int)) → Bool → Option (Int × (List T75) × (List (T75 × Int)))
  | 0, _, _, _, _, _ => none
  | k8 + 1, v2, v1, v3, v4, v8 =>
    (bif v8 then
      some (0, v3, v4)
    else
      (bif ((if v2 < v1 then v2 else v1) == 1) then
        F65_j2 k8 v2 v1 v3 v4 true
      else
        F65_j2 k8 v2 v1 v3 v4 ((if v2 < v1 then v2 else v1) == (if v2 > v1 then v2 else v1))))
def F65_j2 : Nat → Int → Int → (List T75) → (List (T75 × Int)) → Bool → Option (Int × (List T75) × (List (T75 × Int)))
  | 0, _, _, _, _, _ => none
  | k12 + 1, v2, v1, v3, v4, v9 =>
    (bif v9 then
      some ((if v2 > v1 then v2 else v1), v3, v4)
    else
      ((F78 k12 (if v2 < v1 then v2 else v1) (if v2 > v1 then v2 else v1) v3 v4).bind fun ⟨v10, v11⟩ =>
        (bif v11 then
          some (v10, v3, v4)
        else
          ((F78 k12 (if v2 > v1 then v2 else v1) (if v2 < v1 then v2 else v1) v3 v4).bind fun ⟨v12, v13⟩ =>
            (bif v13 then
              some (v12, v3, v4)
            else
              ((F79 k12 (if v2 < v1 then v2 else v1) (if v2 > v1 then v2 else v1) v3 v4).bind fun ⟨v14, v15, v16, v17⟩ =>
                (bif v15 then
                  some (v14, v16, v17)
                else
                  ((F79 k12 (if v2 > v1 then v2 else v1) (if v2 < v1 then v2 else v1) v16 v17).bind fun ⟨v18, v19, v20, v21⟩ =>
                    (bif v19 then
                      some (v18, v20, v21)
                    else
                      (bif (getM q75 v21 (T75.mk (if v2 < v1 then v2 else v1) (if v2 > v1 then v2 else v1))).isSome then
                        some (((getM q75 v21 (T75.mk (if v2 < v1 then v2 else v1) (if v2 > v1 then v2 else v1))).getD 0), v20, v21)
                      else
                        ((F44 k12 (if v2 < v1 then v2 else v1) (if v2 > v1 then v2 else v1) v20 v21).bind fun ⟨v22, v23⟩ =>
                          (bif (v22 != (-1)) then
                            some (v22, v23, (putM q75 v21 (T75.mk (if v2 < v1 then v2 else v1) (if v2 > v1 then v2 else v1)) v22))
                          else
                            some (v22, v23, v21)))))))))))))
def F79 : Nat → Int → Int → (List T75) → (List (T75 × Int)) → Option (Int × Bool × (List T75) × (List (T75 × Int)))
  | 0, _, _, _, _ => none
  | k + 1, v1, v2, v3, v4 =>
    ((F84 k v2 v3 v4).bind fun ⟨v5, v6, v7⟩ =>
      (bif (!v7) then
        F79_j0 k v1 v5 v6 v3 v4 true
      else
        F79_j0 k v1 v5 v6 v3 v4 ((Int.tmod v2 2) == 0)))
def F79_j0 : Nat → Int → Int → Int → (List T75) → (List (T75 × Int)) → Bool → Option (Int × Bool × (List T75) × (List (T75 × Int)))
  | 0, _, _, _, _, _, _ => none
  | k3 + 1, v1, v5, v6, v3, v4, v8 =>
    (bif v8 then
      some (0, false, v3, v4)
    else
      (bif ((bits .xor .i64 v1 1) == v5) then
        F79_j1 k3 v1 v5 v6 v3 v4 true
      else
        F79_j1 k3 v1 v5 v6 v3 v4 ((bits .xor .i64 v1 1) == v6)))
def F79_j1 : Nat → Int → Int → Int → (List T75) → (List (T75 × Int)) → Bool → Option (Int × Bool × (List T75) × (List (T75 × Int)))
  | 0, _, _, _, _, _, _ => none
  | k7 + 1, v1, v5, v6, v3, v4, v9 =>
    (bif v9 then
      some (v1, true, v3, v4)
    else
      (bif (v1 == v5) then
        ((F65 k7 v1 (bits .xor .i64 v6 1) v3 v4).bind fun ⟨v10, v11, v12⟩ =>
          some (v10, true, v11, v12))
      else
        (bif (v1 == v6) then
          ((F65 k7 v1 (bits .xor .i64 v5 1) v3 v4).bind fun ⟨v13, v14, v15⟩ =>
            some (v13, true, v14, v15))
        else
          some (0, false, v3, v4))))
end

theorem F79_step (K0 : Nat) (ih_F79 : ∀ k, k < K0 → ∀ (v1 : Int) (v2 : Int) (v3 : (List T75)) (v4 : (List (T75 × Int))) (r1 : Int) (r2 : Bool) (r3 : (List T75)) (r4 : (List (T75 × Int))), F79 k v1 v2 v3 v4 = some (r1, r2, r3, r4) → Fn prog 79 [(.ptr 0 0), (aI v1), (aI v2)] [.cells [(.gr 1 (l75 v3).length), (.map 2)], .row false 76 2 (l75 v3), .map (mE e75 e2 v4)] (.tup [(aI r1), (.bool r2)]) [.cells [(.gr 1 (l75 r3).length), (.map 2)], .row false 76 2 (l75 r3), .map (mE e75 e2 r4)]) (ih_F65 : ∀ k, k < K0 → ∀ (v1 : Int) (v2 : Int) (v3 : (List T75)) (v4 : (List (T75 × Int))) (r1 : Int) (r2 : (List T75)) (r3 : (List (T75 × Int))), F65 k v1 v2 v3 v4 = some (r1, r2, r3) → Fn prog 65 [(.ptr 0 0), (aI v1), (aI v2)] [.cells [(.gr 1 (l75 v3).length), (.map 2)], .row false 76 2 (l75 v3), .map (mE e75 e2 v4)] (aI r1) [.cells [(.gr 1 (l75 r2).length), (.map 2)], .row false 76 2 (l75 r2), .map (mE e75 e2 r3)]) : ∀ (v1 : Int) (v2 : Int) (v3 : (List T75)) (v4 : (List (T75 × Int))) (r1 : Int) (r2 : Bool) (r3 : (List T75)) (r4 : (List (T75 × Int))), F79 K0 v1 v2 v3 v4 = some (r1, r2, r3, r4) → Fn prog 79 [(.ptr 0 0), (aI v1), (aI v2)] [.cells [(.gr 1 (l75 v3).length), (.map 2)], .row false 76 2 (l75 v3), .map (mE e75 e2 v4)] (.tup [(aI r1), (.bool r2)]) [.cells [(.gr 1 (l75 r3).length), (.map 2)], .row false 76 2 (l75 r3), .map (mE e75 e2 r4)] := by
  intro v1 v2 v3 v4 r1 r2 r3 r4 h
  cases K0 with
  | zero => rw [F79] at h; cases h
  | succ k =>
    have hk : k < k + 1 := Nat.lt_succ_self k
    rw [F79] at h
    refine Fn_bodyK hT Go.Proofs.Try.func79 (c := Go.Proofs.Try.f79.body.getD .skip) (by kernel_rfl) (by kernel_rfl) (by kernel_rfl) ?_
    refine zs hT [0, 1, 2] [(0, (.ptr 0 0)), (1, (aI v1)), (2, (aI v2))] ?_
    refine AW_seq ?_
    obtain ⟨⟨v5, v6, v7⟩, h1, h⟩ := bsm h
    try dsimp only at h
    refine AW_reg ?_
    refine zm hT 2 [0, 1, 2, 12, 13] [(0, (.ptr 0 0)), (1, (aI v1)), (2, (aI v2)), (12, (.ptr 0 0)), (13, (aI v2))] ?_
    refine zO (jC Go.Proofs.Try.func84 (Fn_in (L := [.cells [(.gr 1 (l75 v3).length), (.map 2)], .row false 76 2 (l75 v3), .map (mE e75 e2 v4)]) (args' := [(.ptr 0 0), (aI v2)]) (res' := (.tup [(aI v5), (aI v6), (.bool v7)])) (L'' := [.cells [(.gr 1 (l75 v3).length), (.map 2)], .row false 76 2 (l75 v3), .map (mE e75 e2 v4)]) [0, 1, 2] (F84_ok k v2 v3 v4 v5 v6 v7 h1) rfl (by decide) ⟨(by simp [AV.ren, AV.rens, AObj.ren, gname]), (by simp [AV.ren, AV.rens, AObj.ren, gname]), (by simp [AV.ren, AV.rens, AObj.ren, gname]), trivial⟩ (by simp [AV.low, AV.lows, AObj.low]) (by simp [AV.low, AV.lows, AObj.low]) (by kernel_rfl) (by simp [AV.ren, AV.rens, AObj.ren, gname, putBack]) (by simp [AV.ren, AV.rens, AObj.ren, gname, putBack]) (by simp [AV.ren, AV.rens, AObj.ren, gname, putBack]))) ?_
    refine ze hT 7 [0, 1, 2, 8, 9, 10] [(0, (.ptr 0 0)), (1, (aI v1)), (2, (aI v2)), (8, (aI v5)), (9, (aI v6)), (10, (.bool v7))] ?_
    refine AE_seqN ?_
    refine AW_seq ?_
    refine AW_block ?_
    refine AW_join (fun env L => ∃ (v8 : Bool), env = [(0, (.ptr 0 0)), (1, (aI v1)), (8, (aI v5)), (9, (aI v6)), (18, (.bool v8))] ∧ L = [.cells [(.gr 1 (l75 v3).length), (.map 2)], .row false 76 2 (l75 v3), .map (mE e75 e2 v4)] ∧ ∃ n, n ≤ k ∧ F79_j0 n v1 v5 v6 v3 v4 v8 = some (r1, r2, r3, r4)) ?_ ?_
    · rcases bif_split h with ⟨h2, h⟩ | ⟨h2, h⟩
      · refine AW_reg ?_
        refine zm hT 2 [0, 1, 2, 8, 9, 20] [(0, (.ptr 0 0)), (1, (aI v1)), (2, (aI v2)), (8, (aI v5)), (9, (aI v6)), (20, (.bool (!v7)))] ?_
        refine zO (jQ hT h2) ?_
        refine ze hT 5 [0, 1, 8, 9, 18] [(0, (.ptr 0 0)), (1, (aI v1)), (8, (aI v5)), (9, (aI v6)), (18, (.bool true))] ?_
        refine zK [0, 1, 8, 9, 18] [(0, (.ptr 0 0)), (1, (aI v1)), (8, (aI v5)), (9, (aI v6)), (18, (.bool true))] ?_
        exact AE_done ⟨true, rfl, rfl, k, by omega, h⟩
      · refine AW_reg ?_
        refine zm hT 2 [0, 1, 2, 8, 9, 20] [(0, (.ptr 0 0)), (1, (aI v1)), (2, (aI v2)), (8, (aI v5)), (9, (aI v6)), (20, (.bool (!v7)))] ?_
        refine zO (jQ hT h2) ?_
        refine ze hT 5 [0, 1, 8, 9, 18] [(0, (.ptr 0 0)), (1, (aI v1)), (8, (aI v5)), (9, (aI v6)), (18, (.bool ((Int.tmod v2 2) == 0)))] ?_
        refine zK [0, 1, 8, 9, 18] [(0, (.ptr 0 0)), (1, (aI v1)), (8, (aI v5)), (9, (aI v6)), (18, (.bool ((Int.tmod v2 2) == 0)))] ?_
        exact AE_done ⟨((Int.tmod v2 2) == 0), rfl, rfl, k, by omega, h⟩
    · rintro _ _ ⟨v8, rfl, rfl, n, hn, h⟩
      obtain _ | k3 := n
      · rw [F79_j0] at h; cases h
      have h4 : k3 < (k + 1) := by omega
      rw [F79_j0] at h
      rcases bif_split h with ⟨h5, h⟩ | ⟨h5, h⟩
      · refine zT h5 ?_
        refine zs hT [6, 7] [(6, (aI 0)), (7, (.bool false))] ?_
        refine AE_ret ?_
        refine AE_blkR ?_
        refine AE_seqR ?_
        refine zK [6, 7] [(6, (aI 0)), (7, (.bool false))] ?_
        simp only [Option.some.injEq, Prod.mk.injEq] at h
        obtain ⟨rfl, rfl, rfl, rfl⟩ := h
        exact zEnd
      · refine zN h5 ?_
        refine AW_join (fun env L => ∃ (v9 : Bool), env = [(0, (.ptr 0 0)), (1, (aI v1)), (8, (aI v5)), (9, (aI v6)), (26, (.bool v9))] ∧ L = [.cells [(.gr 1 (l75 v3).length), (.map 2)], .row false 76 2 (l75 v3), .map (mE e75 e2 v4)] ∧ ∃ n, n ≤ k3 ∧ F79_j1 n v1 v5 v6 v3 v4 v9 = some (r1, r2, r3, r4)) ?_ ?_
        · rcases bif_split h with ⟨h6, h⟩ | ⟨h6, h⟩
          · refine AW_reg ?_
            refine zm hT 4 [0, 1, 8, 9, 30] [(0, (.ptr 0 0)), (1, (aI v1)), (8, (aI v5)), (9, (aI v6)), (30, (.bool ((bits .xor .i64 v1 1) == v5)))] ?_
            refine zO (jQ hT h6) ?_
            refine ze hT 6 [0, 1, 8, 9, 26] [(0, (.ptr 0 0)), (1, (aI v1)), (8, (aI v5)), (9, (aI v6)), (26, (.bool true))] ?_
            refine zK [0, 1, 8, 9, 26] [(0, (.ptr 0 0)), (1, (aI v1)), (8, (aI v5)), (9, (aI v6)), (26, (.bool true))] ?_
            exact AE_done ⟨true, rfl, rfl, k3, by omega, h⟩
          · refine AW_reg ?_
            refine zm hT 4 [0, 1, 8, 9, 30] [(0, (.ptr 0 0)), (1, (aI v1)), (8, (aI v5)), (9, (aI v6)), (30, (.bool ((bits .xor .i64 v1 1) == v5)))] ?_
            refine zO (jQ hT h6) ?_
            refine ze hT 6 [0, 1, 8, 9, 26] [(0, (.ptr 0 0)), (1, (aI v1)), (8, (aI v5)), (9, (aI v6)), (26, (.bool ((bits .xor .i64 v1 1) == v6)))] ?_
            refine zK [0, 1, 8, 9, 26] [(0, (.ptr 0 0)), (1, (aI v1)), (8, (aI v5)), (9, (aI v6)), (26, (.bool ((bits .xor .i64 v1 1) == v6)))] ?_
            exact AE_done ⟨((bits .xor .i64 v1 1) == v6), rfl, rfl, k3, by omega, h⟩
        · rintro _ _ ⟨v9, rfl, rfl, n, hn, h⟩
          obtain _ | k7 := n
          · rw [F79_j1] at h; cases h
          have h8 : k7 < (k + 1) := by omega
          rw [F79_j1] at h
          rcases bif_split h with ⟨h9, h⟩ | ⟨h9, h⟩
          · refine zT h9 ?_
            refine zs hT [6, 7] [(6, (aI v1)), (7, (.bool true))] ?_
            refine AE_ret ?_
            refine AE_blkR ?_
            refine AE_seqR ?_
            refine zK [6, 7] [(6, (aI v1)), (7, (.bool true))] ?_
            simp only [Option.some.injEq, Prod.mk.injEq] at h
            obtain ⟨rfl, rfl, rfl, rfl⟩ := h
            exact zEnd
          · refine zN h9 ?_
            refine zs hT [0, 1, 8, 9, 38] [(0, (.ptr 0 0)), (1, (aI v1)), (8, (aI v5)), (9, (aI v6)), (38, (.bool (v1 == v5)))] ?_
            rcases bif_split h with ⟨h10, h⟩ | ⟨h10, h⟩
            · refine zT h10 ?_
              refine AW_seq ?_
              obtain ⟨⟨v10, v11, v12⟩, h11, h⟩ := bsm h
              try dsimp only at h
              refine AW_reg ?_
              refine zm hT 4 [42, 43, 45] [(42, (.ptr 0 0)), (43, (aI v1)), (45, (aI (bits .xor .i64 v6 1)))] ?_
              refine zO (jC Go.Proofs.Try.func65 (Fn_in (L := [.cells [(.gr 1 (l75 v3).length), (.map 2)], .row false 76 2 (l75 v3), .map (mE e75 e2 v4)]) (args' := [(.ptr 0 0), (aI v1), (aI (bits .xor .i64 v6 1))]) (res' := (aI v10)) (L'' := [.cells [(.gr 1 (l75 v11).length), (.map 2)], .row false 76 2 (l75 v11), .map (mE e75 e2 v12)]) [0, 1, 2] (ih_F65 k7 h8 v1 (bits .xor .i64 v6 1) v3 v4 v10 v11 v12 h11) rfl (by decide) ⟨(by simp [AV.ren, AV.rens, AObj.ren, gname]), (by simp [AV.ren, AV.rens, AObj.ren, gname]), (by simp [AV.ren, AV.rens, AObj.ren, gname]), trivial⟩ (by simp [AV.low, AV.lows, AObj.low]) (by simp [AV.low, AV.lows, AObj.low]) (by kernel_rfl) (by simp [AV.ren, AV.rens, AObj.ren, gname, putBack]) (by simp [AV.ren, AV.rens, AObj.ren, gname, putBack]) (by simp [AV.ren, AV.rens, AObj.ren, gname, putBack]))) ?_
              refine ze hT 2 [6, 7] [(6, (aI v10)), (7, (.bool true))] ?_
              refine AE_seqN ?_
              refine AE_ret ?_
              refine AE_blkR ?_
              refine AE_seqR ?_
              refine zK [6, 7] [(6, (aI v10)), (7, (.bool true))] ?_
              simp only [Option.some.injEq, Prod.mk.injEq] at h
              obtain ⟨rfl, rfl, rfl, rfl⟩ := h
              exact zEnd
            · refine zN h10 ?_
              refine zs hT [0, 1, 8, 47] [(0, (.ptr 0 0)), (1, (aI v1)), (8, (aI v5)), (47, (.bool (v1 == v6)))] ?_
              rcases bif_split h with ⟨h12, h⟩ | ⟨h12, h⟩
              · refine zT h12 ?_
                refine AW_seq ?_
                obtain ⟨⟨v13, v14, v15⟩, h13, h⟩ := bsm h
                try dsimp only at h
                refine AW_reg ?_
                refine zm hT 4 [51, 52, 54] [(51, (.ptr 0 0)), (52, (aI v1)), (54, (aI (bits .xor .i64 v5 1)))] ?_
                refine zO (jC Go.Proofs.Try.func65 (Fn_in (L := [.cells [(.gr 1 (l75 v3).length), (.map 2)], .row false 76 2 (l75 v3), .map (mE e75 e2 v4)]) (args' := [(.ptr 0 0), (aI v1), (aI (bits .xor .i64 v5 1))]) (res' := (aI v13)) (L'' := [.cells [(.gr 1 (l75 v14).length), (.map 2)], .row false 76 2 (l75 v14), .map (mE e75 e2 v15)]) [0, 1, 2] (ih_F65 k7 h8 v1 (bits .xor .i64 v5 1) v3 v4 v13 v14 v15 h13) rfl (by decide) ⟨(by simp [AV.ren, AV.rens, AObj.ren, gname]), (by simp [AV.ren, AV.rens, AObj.ren, gname]), (by simp [AV.ren, AV.rens, AObj.ren, gname]), trivial⟩ (by simp [AV.low, AV.lows, AObj.low]) (by simp [AV.low, AV.lows, AObj.low]) (by kernel_rfl) (by simp [AV.ren, AV.rens, AObj.ren, gname, putBack]) (by simp [AV.ren, AV.rens, AObj.ren, gname, putBack]) (by simp [AV.ren, AV.rens, AObj.ren, gname, putBack]))) ?_
                refine ze hT 2 [6, 7] [(6, (aI v13)), (7, (.bool true))] ?_
                refine AE_seqN ?_
                refine AE_ret ?_
                refine AE_blkR ?_
                refine AE_seqR ?_
                refine zK [6, 7] [(6, (aI v13)), (7, (.bool true))] ?_
                simp only [Option.some.injEq, Prod.mk.injEq] at h
                obtain ⟨rfl, rfl, rfl, rfl⟩ := h
                exact zEnd
              · refine zN h12 ?_
                refine AE_skip ?_
                refine AE_blkN ?_
                refine AE_seqN ?_
                refine zs hT [6, 7] [(6, (aI 0)), (7, (.bool false))] ?_
                refine AE_ret ?_
                refine zK [6, 7] [(6, (aI 0)), (7, (.bool false))] ?_
                simp only [Option.some.injEq, Prod.mk.injEq] at h
                obtain ⟨rfl, rfl, rfl, rfl⟩ := h
                exact zEnd

theorem F65_step (K0 : Nat) (ih_F79 : ∀ k, k < K0 → ∀ (v1 : Int) (v2 : Int) (v3 : (List T75)) (v4 : (List (T75 × Int))) (r1 : Int) (r2 : Bool) (r3 : (List T75)) (r4 : (List (T75 × Int))), F79 k v1 v2 v3 v4 = some (r1, r2, r3, r4) → Fn prog 79 [(.ptr 0 0), (aI v1), (aI v2)] [.cells [(.gr 1 (l75 v3).length), (.map 2)], .row false 76 2 (l75 v3), .map (mE e75 e2 v4)] (.tup [(aI r1), (.bool r2)]) [.cells [(.gr 1 (l75 r3).length), (.map 2)], .row false 76 2 (l75 r3), .map (mE e75 e2 r4)]) (ih_F65 : ∀ k, k < K0 → ∀ (v1 : Int) (v2 : Int) (v3 : (List T75)) (v4 : (List (T75 × Int))) (r1 : Int) (r2 : (List T75)) (r3 : (List (T75 × Int))), F65 k v1 v2 v3 v4 = some (r1, r2, r3) → Fn prog 65 [(.ptr 0 0), (aI v1), (aI v2)] [.cells [(.gr 1 (l75 v3).length), (.map 2)], .row false 76 2 (l75 v3), .map (mE e75 e2 v4)] (aI r1) [.cells [(.gr 1 (l75 r2).length), (.map 2)], .row false 76 2 (l75 r2), .map (mE e75 e2 r3)]) : ∀ (v1 : Int) (v2 : Int) (v3 : (List T75)) (v4 : (List (T75 × Int))) (r1 : Int) (r2 : (List T75)) (r3 : (List (T75 × Int))), F65 K0 v1 v2 v3 v4 = some (r1, r2, r3) → Fn prog 65 [(.ptr 0 0), (aI v1), (aI v2)] [.cells [(.gr 1 (l75 v3).length), (.map 2)], .row false 76 2 (l75 v3), .map (mE e75 e2 v4)] (aI r1) [.cells [(.gr 1 (l75 r2).length), (.map 2)], .row false 76 2 (l75 r2), .map (mE e75 e2 r3)] := by
  intro v1 v2 v3 v4 r1 r2 r3 h
  cases K0 with
  | zero => rw [F65] at h; cases h
  | succ k =>
    have hk : k < k + 1 := Nat.lt_succ_self k
    rw [F65] at h
    refine Fn_bodyK hT Go.Proofs.Try.func65 (c := Go.Proofs.Try.f65.body.getD .skip) (by kernel_rfl) (by kernel_rfl) (by kernel_rfl) ?_
    refine zs hT [0, 1, 2] [(0, (.ptr 0 0)), (1, (aI v1)), (2, (aI v2))] ?_
    refine AW_seq ?_
    refine AW_join (fun env L => ∃ (v5 : Bool), env = [(0, (.ptr 0 0)), (1, (aI v1)), (2, (aI v2)), (28, (.bool v5))] ∧ L = [.cells [(.gr 1 (l75 v3).length), (.map 2)], .row false 76 2 (l75 v3), .map (mE e75 e2 v4)] ∧ ∃ n, n ≤ k ∧ F65_j0 n v1 v2 v3 v4 v5 = some (r1, r2, r3)) ?_ ?_
    · obtain ⟨v6, h1, h⟩ := bsm h
      try dsimp only at h
      rcases bif_split h with ⟨h2, h⟩ | ⟨h2, h⟩
      · refine AW_reg ?_
        refine zm hT 2 [0, 1, 2, 19, 20] [(0, (.ptr 0 0)), (1, (aI v1)), (2, (aI v2)), (19, (.ptr 0 0)), (20, (aI v1))] ?_
        refine zO (jC Go.Proofs.Try.func46 (Fn_in (L := [.cells [(.gr 1 (l75 v3).length), (.map 2)], .row false 76 2 (l75 v3), .map (mE e75 e2 v4)]) (args' := [(.ptr 0 0), (aI v1)]) (res' := (.bool v6)) (L'' := [.cells [(.gr 1 (l75 v3).length), (.map 2)], .row false 76 2 (l75 v3), .map (mE e75 e2 v4)]) [0, 1, 2] (F46_ok k v1 v3 v4 v6 h1) rfl (by decide) ⟨(by simp [AV.ren, AV.rens, AObj.ren, gname]), (by simp [AV.ren, AV.rens, AObj.ren, gname]), (by simp [AV.ren, AV.rens, AObj.ren, gname]), trivial⟩ (by simp [AV.low, AV.lows, AObj.low]) (by simp [AV.low, AV.lows, AObj.low]) (by kernel_rfl) (by simp [AV.ren, AV.rens, AObj.ren, gname, putBack]) (by simp [AV.ren, AV.rens, AObj.ren, gname, putBack]) (by simp [AV.ren, AV.rens, AObj.ren, gname, putBack]))) ?_
        refine zm hT 1 [0, 1, 2, 22] [(0, (.ptr 0 0)), (1, (aI v1)), (2, (aI v2)), (22, (.bool (!v6)))] ?_
        refine zO (jQ hT h2) ?_
        refine ze hT 5 [0, 1, 2, 28] [(0, (.ptr 0 0)), (1, (aI v1)), (2, (aI v2)), (28, (.bool true))] ?_
        refine zK [0, 1, 2, 28] [(0, (.ptr 0 0)), (1, (aI v1)), (2, (aI v2)), (28, (.bool true))] ?_
        exact AE_done ⟨true, rfl, rfl, k, by omega, h⟩
      · obtain ⟨v7, h3, h⟩ := bsm h
        try dsimp only at h
        refine AW_reg ?_
        refine zm hT 2 [0, 1, 2, 19, 20] [(0, (.ptr 0 0)), (1, (aI v1)), (2, (aI v2)), (19, (.ptr 0 0)), (20, (aI v1))] ?_
        refine zO (jC Go.Proofs.Try.func46 (Fn_in (L := [.cells [(.gr 1 (l75 v3).length), (.map 2)], .row false 76 2 (l75 v3), .map (mE e75 e2 v4)]) (args' := [(.ptr 0 0), (aI v1)]) (res' := (.bool v6)) (L'' := [.cells [(.gr 1 (l75 v3).length), (.map 2)], .row false 76 2 (l75 v3), .map (mE e75 e2 v4)]) [0, 1, 2] (F46_ok k v1 v3 v4 v6 h1) rfl (by decide) ⟨(by simp [AV.ren, AV.rens, AObj.ren, gname]), (by simp [AV.ren, AV.rens, AObj.ren, gname]), (by simp [AV.ren, AV.rens, AObj.ren, gname]), trivial⟩ (by simp [AV.low, AV.lows, AObj.low]) (by simp [AV.low, AV.lows, AObj.low]) (by kernel_rfl) (by simp [AV.ren, AV.rens, AObj.ren, gname, putBack]) (by simp [AV.ren, AV.rens, AObj.ren, gname, putBack]) (by simp [AV.ren, AV.rens, AObj.ren, gname, putBack]))) ?_
        refine zm hT 1 [0, 1, 2, 22] [(0, (.ptr 0 0)), (1, (aI v1)), (2, (aI v2)), (22, (.bool (!v6)))] ?_
        refine zO (jQ hT h2) ?_
        refine zm hT 2 [0, 1, 2, 23, 24, 25] [(0, (.ptr 0 0)), (1, (aI v1)), (2, (aI v2)), (23, (.bool false)), (24, (.ptr 0 0)), (25, (aI v2))] ?_
        refine zO (jC Go.Proofs.Try.func46 (Fn_in (L := [.cells [(.gr 1 (l75 v3).length), (.map 2)], .row false 76 2 (l75 v3), .map (mE e75 e2 v4)]) (args' := [(.ptr 0 0), (aI v2)]) (res' := (.bool v7)) (L'' := [.cells [(.gr 1 (l75 v3).length), (.map 2)], .row false 76 2 (l75 v3), .map (mE e75 e2 v4)]) [0, 1, 2] (F46_ok k v2 v3 v4 v7 h3) rfl (by decide) ⟨(by simp [AV.ren, AV.rens, AObj.ren, gname]), (by simp [AV.ren, AV.rens, AObj.ren, gname]), (by simp [AV.ren, AV.rens, AObj.ren, gname]), trivial⟩ (by simp [AV.low, AV.lows, AObj.low]) (by simp [AV.low, AV.lows, AObj.low]) (by kernel_rfl) (by simp [AV.ren, AV.rens, AObj.ren, gname, putBack]) (by simp [AV.ren, AV.rens, AObj.ren, gname, putBack]) (by simp [AV.ren, AV.rens, AObj.ren, gname, putBack]))) ?_
        refine ze hT 2 [0, 1, 2, 28] [(0, (.ptr 0 0)), (1, (aI v1)), (2, (aI v2)), (28, (.bool (!v7)))] ?_
        refine zK [0, 1, 2, 28] [(0, (.ptr 0 0)), (1, (aI v1)), (2, (aI v2)), (28, (.bool (!v7)))] ?_
        exact AE_done ⟨(!v7), rfl, rfl, k, by omega, h⟩
    · rintro _ _ ⟨v5, rfl, rfl, n, hn, h⟩
      obtain _ | k4 := n
      · rw [F65_j0] at h; cases h
      have h5 : k4 < (k + 1) := by omega
      rw [F65_j0] at h
      rcases bif_split h with ⟨h6, h⟩ | ⟨h6, h⟩
      · refine zT h6 ?_
        refine zs hT [6] [(6, (aI (-1)))] ?_
        refine AE_ret ?_
        refine AE_seqR ?_
        refine zK [6] [(6, (aI (-1)))] ?_
        simp only [Option.some.injEq, Prod.mk.injEq] at h
        obtain ⟨rfl, rfl, rfl⟩ := h
        exact zEnd
      · refine zN h6 ?_
        refine AE_skip ?_
        refine AE_seqN ?_
        refine zs hT [0, 1, 2] [(0, (.ptr 0 0)), (1, (aI (if v2 < v1 then v2 else v1))), (2, (aI (if v2 > v1 then v2 else v1)))] ?_
        refine AW_seq ?_
        refine AW_block ?_
        refine AW_join (fun env L => ∃ (v8 : Bool), env = [(0, (.ptr 0 0)), (1, (aI (if v2 < v1 then v2 else v1))), (2, (aI (if v2 > v1 then v2 else v1))), (35, (.bool v8))] ∧ L = [.cells [(.gr 1 (l75 v3).length), (.map 2)], .row false 76 2 (l75 v3), .map (mE e75 e2 v4)] ∧ ∃ n, n ≤ k4 ∧ F65_j1 n v2 v1 v3 v4 v8 = some (r1, r2, r3)) ?_ ?_
        · rcases bif_split h with ⟨h7, h⟩ | ⟨h7, h⟩
          · refine AW_reg ?_
            refine zm hT 2 [0, 1, 2, 37] [(0, (.ptr 0 0)), (1, (aI (if v2 < v1 then v2 else v1))), (2, (aI (if v2 > v1 then v2 else v1))), (37, (.bool ((if v2 < v1 then v2 else v1) == 0)))] ?_
            refine zO (jQ hT h7) ?_
            refine ze hT 6 [0, 1, 2, 35] [(0, (.ptr 0 0)), (1, (aI (if v2 < v1 then v2 else v1))), (2, (aI (if v2 > v1 then v2 else v1))), (35, (.bool true))] ?_
            refine zK [0, 1, 2, 35] [(0, (.ptr 0 0)), (1, (aI (if v2 < v1 then v2 else v1))), (2, (aI (if v2 > v1 then v2 else v1))), (35, (.bool true))] ?_
            exact AE_done ⟨true, rfl, rfl, k4, by omega, h⟩
          · refine AW_reg ?_
            refine zm hT 2 [0, 1, 2, 37] [(0, (.ptr 0 0)), (1, (aI (if v2 < v1 then v2 else v1))), (2, (aI (if v2 > v1 then v2 else v1))), (37, (.bool ((if v2 < v1 then v2 else v1) == 0)))] ?_
            refine zO (jQ hT h7) ?_
            refine ze hT 6 [0, 1, 2, 35] [(0, (.ptr 0 0)), (1, (aI (if v2 < v1 then v2 else v1))), (2, (aI (if v2 > v1 then v2 else v1))), (35, (.bool ((bits .xor .i64 (if v2 < v1 then v2 else v1) 1) == (if v2 > v1 then v2 else v1))))] ?_
            refine zK [0, 1, 2, 35] [(0, (.ptr 0 0)), (1, (aI (if v2 < v1 then v2 else v1))), (2, (aI (if v2 > v1 then v2 else v1))), (35, (.bool ((bits .xor .i64 (if v2 < v1 then v2 else v1) 1) == (if v2 > v1 then v2 else v1))))] ?_
            exact AE_done ⟨((bits .xor .i64 (if v2 < v1 then v2 else v1) 1) == (if v2 > v1 then v2 else v1)), rfl, rfl, k4, by omega, h⟩
        · rintro _ _ ⟨v8, rfl, rfl, n, hn, h⟩
          obtain _ | k8 := n
          · rw [F65_j1] at h; cases h
          have h9 : k8 < (k + 1) := by omega
          rw [F65_j1] at h
          rcases bif_split h with ⟨h10, h⟩ | ⟨h10, h⟩
          · refine zT h10 ?_
            refine zs hT [6] [(6, (aI 0))] ?_
            refine AE_ret ?_
            refine AE_blkR ?_
            refine AE_seqR ?_
            refine zK [6] [(6, (aI 0))] ?_
            simp only [Option.some.injEq, Prod.mk.injEq] at h
            obtain ⟨rfl, rfl, rfl⟩ := h
            exact zEnd
          · refine zN h10 ?_
            refine AW_join (fun env L => ∃ (v9 : Bool), env = [(0, (.ptr 0 0)), (1, (aI (if v2 < v1 then v2 else v1))), (2, (aI (if v2 > v1 then v2 else v1))), (44, (.bool v9))] ∧ L = [.cells [(.gr 1 (l75 v3).length), (.map 2)], .row false 76 2 (l75 v3), .map (mE e75 e2 v4)] ∧ ∃ n, n ≤ k8 ∧ F65_j2 n v2 v1 v3 v4 v9 = some (r1, r2, r3)) ?_ ?_
            · rcases bif_split h with ⟨h11, h⟩ | ⟨h11, h⟩
              · refine AW_reg ?_
                refine zm hT 2 [0, 1, 2, 46] [(0, (.ptr 0 0)), (1, (aI (if v2 < v1 then v2 else v1))), (2, (aI (if v2 > v1 then v2 else v1))), (46, (.bool ((if v2 < v1 then v2 else v1) == 1)))] ?_
                refine zO (jQ hT h11) ?_
                refine ze hT 5 [0, 1, 2, 44] [(0, (.ptr 0 0)), (1, (aI (if v2 < v1 then v2 else v1))), (2, (aI (if v2 > v1 then v2 else v1))), (44, (.bool true))] ?_
                refine zK [0, 1, 2, 44] [(0, (.ptr 0 0)), (1, (aI (if v2 < v1 then v2 else v1))), (2, (aI (if v2 > v1 then v2 else v1))), (44, (.bool true))] ?_
                exact AE_done ⟨true, rfl, rfl, k8, by omega, h⟩
              · refine AW_reg ?_
                refine zm hT 2 [0, 1, 2, 46] [(0, (.ptr 0 0)), (1, (aI (if v2 < v1 then v2 else v1))), (2, (aI (if v2 > v1 then v2 else v1))), (46, (.bool ((if v2 < v1 then v2 else v1) == 1)))] ?_
                refine zO (jQ hT h11) ?_
                refine ze hT 5 [0, 1, 2, 44] [(0, (.ptr 0 0)), (1, (aI (if v2 < v1 then v2 else v1))), (2, (aI (if v2 > v1 then v2 else v1))), (44, (.bool ((if v2 < v1 then v2 else v1) == (if v2 > v1 then v2 else v1))))] ?_
                refine zK [0, 1, 2, 44] [(0, (.ptr 0 0)), (1, (aI (if v2 < v1 then v2 else v1))), (2, (aI (if v2 > v1 then v2 else v1))), (44, (.bool ((if v2 < v1 then v2 else v1) == (if v2 > v1 then v2 else v1))))] ?_
                exact AE_done ⟨((if v2 < v1 then v2 else v1) == (if v2 > v1 then v2 else v1)), rfl, rfl, k8, by omega, h⟩
            · rintro _ _ ⟨v9, rfl, rfl, n, hn, h⟩
              obtain _ | k12 := n
              · rw [F65_j2] at h; cases h
              have h13 : k12 < (k + 1) := by omega
              rw [F65_j2] at h
              rcases bif_split h with ⟨h14, h⟩ | ⟨h14, h⟩
              · refine zT h14 ?_
                refine zs hT [6] [(6, (aI (if v2 > v1 then v2 else v1)))] ?_
                refine AE_ret ?_
                refine AE_blkR ?_
                refine AE_seqR ?_
                refine zK [6] [(6, (aI (if v2 > v1 then v2 else v1)))] ?_
                simp only [Option.some.injEq, Prod.mk.injEq] at h
                obtain ⟨rfl, rfl, rfl⟩ := h
                exact zEnd
              · refine zN h14 ?_
                refine AE_skip ?_
                refine AE_blkN ?_
                refine AE_seqN ?_
                refine AW_seq ?_
                refine AW_seq ?_
                obtain ⟨⟨v10, v11⟩, h15, h⟩ := bsm h
                try dsimp only at h
                refine AW_reg ?_
                refine zm hT 3 [0, 1, 2, 54, 55, 56] [(0, (.ptr 0 0)), (1, (aI (if v2 < v1 then v2 else v1))), (2, (aI (if v2 > v1 then v2 else v1))), (54, (.ptr 0 0)), (55, (aI (if v2 < v1 then v2 else v1))), (56, (aI (if v2 > v1 then v2 else v1)))] ?_
                refine zO (jC Go.Proofs.Try.func78 (Fn_in (L := [.cells [(.gr 1 (l75 v3).length), (.map 2)], .row false 76 2 (l75 v3), .map (mE e75 e2 v4)]) (args' := [(.ptr 0 0), (aI (if v2 < v1 then v2 else v1)), (aI (if v2 > v1 then v2 else v1))]) (res' := (.tup [(aI v10), (.bool v11)])) (L'' := [.cells [(.gr 1 (l75 v3).length), (.map 2)], .row false 76 2 (l75 v3), .map (mE e75 e2 v4)]) [0, 1, 2] (F78_ok k12 (if v2 < v1 then v2 else v1) (if v2 > v1 then v2 else v1) v3 v4 v10 v11 h15) rfl (by decide) ⟨(by simp [AV.ren, AV.rens, AObj.ren, gname]), (by simp [AV.ren, AV.rens, AObj.ren, gname]), (by simp [AV.ren, AV.rens, AObj.ren, gname]), trivial⟩ (by simp [AV.low, AV.lows, AObj.low]) (by simp [AV.low, AV.lows, AObj.low]) (by kernel_rfl) (by simp [AV.ren, AV.rens, AObj.ren, gname, putBack]) (by simp [AV.ren, AV.rens, AObj.ren, gname, putBack]) (by simp [AV.ren, AV.rens, AObj.ren, gname, putBack]))) ?_
                refine ze hT 5 [0, 1, 2, 7, 8] [(0, (.ptr 0 0)), (1, (aI (if v2 < v1 then v2 else v1))), (2, (aI (if v2 > v1 then v2 else v1))), (7, (aI v10)), (8, (.bool v11))] ?_
                refine AE_seqN ?_
                refine zs hT [0, 1, 2, 7, 60] [(0, (.ptr 0 0)), (1, (aI (if v2 < v1 then v2 else v1))), (2, (aI (if v2 > v1 then v2 else v1))), (7, (aI v10)), (60, (.bool v11))] ?_
                rcases bif_split h with ⟨h16, h⟩ | ⟨h16, h⟩
                · refine zT h16 ?_
                  refine zs hT [6] [(6, (aI v10))] ?_
                  refine AE_ret ?_
                  refine AE_seqR ?_
                  refine zK [6] [(6, (aI v10))] ?_
                  simp only [Option.some.injEq, Prod.mk.injEq] at h
                  obtain ⟨rfl, rfl, rfl⟩ := h
                  exact zEnd
                · refine zN h16 ?_
                  refine AE_skip ?_
                  refine AE_seqN ?_
                  refine AW_seq ?_
                  refine AW_seq ?_
                  obtain ⟨⟨v12, v13⟩, h17, h⟩ := bsm h
                  try dsimp only at h
                  refine AW_reg ?_
                  refine zm hT 3 [0, 1, 2, 63, 64, 65] [(0, (.ptr 0 0)), (1, (aI (if v2 < v1 then v2 else v1))), (2, (aI (if v2 > v1 then v2 else v1))), (63, (.ptr 0 0)), (64, (aI (if v2 > v1 then v2 else v1))), (65, (aI (if v2 < v1 then v2 else v1)))] ?_
                  refine zO (jC Go.Proofs.Try.func78 (Fn_in (L := [.cells [(.gr 1 (l75 v3).length), (.map 2)], .row false 76 2 (l75 v3), .map (mE e75 e2 v4)]) (args' := [(.ptr 0 0), (aI (if v2 > v1 then v2 else v1)), (aI (if v2 < v1 then v2 else v1))]) (res' := (.tup [(aI v12), (.bool v13)])) (L'' := [.cells [(.gr 1 (l75 v3).length), (.map 2)], .row false 76 2 (l75 v3), .map (mE e75 e2 v4)]) [0, 1, 2] (F78_ok k12 (if v2 > v1 then v2 else v1) (if v2 < v1 then v2 else v1) v3 v4 v12 v13 h17) rfl (by decide) ⟨(by simp [AV.ren, AV.rens, AObj.ren, gname]), (by simp [AV.ren, AV.rens, AObj.ren, gname]), (by simp [AV.ren, AV.rens, AObj.ren, gname]), trivial⟩ (by simp [AV.low, AV.lows, AObj.low]) (by simp [AV.low, AV.lows, AObj.low]) (by kernel_rfl) (by simp [AV.ren, AV.rens, AObj.ren, gname, putBack]) (by simp [AV.ren, AV.rens, AObj.ren, gname, putBack]) (by simp [AV.ren, AV.rens, AObj.ren, gname, putBack]))) ?_
                  refine ze hT 5 [0, 1, 2, 9, 10] [(0, (.ptr 0 0)), (1, (aI (if v2 < v1 then v2 else v1))), (2, (aI (if v2 > v1 then v2 else v1))), (9, (aI v12)), (10, (.bool v13))] ?_
                  refine AE_seqN ?_
                  refine zs hT [0, 1, 2, 9, 69] [(0, (.ptr 0 0)), (1, (aI (if v2 < v1 then v2 else v1))), (2, (aI (if v2 > v1 then v2 else v1))), (9, (aI v12)), (69, (.bool v13))] ?_
                  rcases bif_split h with ⟨h18, h⟩ | ⟨h18, h⟩
                  · refine zT h18 ?_
                    refine zs hT [6] [(6, (aI v12))] ?_
                    refine AE_ret ?_
                    refine AE_seqR ?_
                    refine zK [6] [(6, (aI v12))] ?_
                    simp only [Option.some.injEq, Prod.mk.injEq] at h
                    obtain ⟨rfl, rfl, rfl⟩ := h
                    exact zEnd
                  · refine zN h18 ?_
                    refine AE_skip ?_
                    refine AE_seqN ?_
                    refine AW_seq ?_
                    refine AW_seq ?_
                    obtain ⟨⟨v14, v15, v16, v17⟩, h19, h⟩ := bsm h
                    try dsimp only at h
                    refine AW_reg ?_
                    refine zm hT 3 [0, 1, 2, 72, 73, 74] [(0, (.ptr 0 0)), (1, (aI (if v2 < v1 then v2 else v1))), (2, (aI (if v2 > v1 then v2 else v1))), (72, (.ptr 0 0)), (73, (aI (if v2 < v1 then v2 else v1))), (74, (aI (if v2 > v1 then v2 else v1)))] ?_
                    refine zO (jC Go.Proofs.Try.func79 (Fn_in (L := [.cells [(.gr 1 (l75 v3).length), (.map 2)], .row false 76 2 (l75 v3), .map (mE e75 e2 v4)]) (args' := [(.ptr 0 0), (aI (if v2 < v1 then v2 else v1)), (aI (if v2 > v1 then v2 else v1))]) (res' := (.tup [(aI v14), (.bool v15)])) (L'' := [.cells [(.gr 1 (l75 v16).length), (.map 2)], .row false 76 2 (l75 v16), .map (mE e75 e2 v17)]) [0, 1, 2] (ih_F79 k12 h13 (if v2 < v1 then v2 else v1) (if v2 > v1 then v2 else v1) v3 v4 v14 v15 v16 v17 h19) rfl (by decide) ⟨(by simp [AV.ren, AV.rens, AObj.ren, gname]), (by simp [AV.ren, AV.rens, AObj.ren, gname]), (by simp [AV.ren, AV.rens, AObj.ren, gname]), trivial⟩ (by simp [AV.low, AV.lows, AObj.low]) (by simp [AV.low, AV.lows, AObj.low]) (by kernel_rfl) (by simp [AV.ren, AV.rens, AObj.ren, gname, putBack]) (by simp [AV.ren, AV.rens, AObj.ren, gname, putBack]) (by simp [AV.ren, AV.rens, AObj.ren, gname, putBack]))) ?_
                    refine ze hT 5 [0, 1, 2, 11, 12] [(0, (.ptr 0 0)), (1, (aI (if v2 < v1 then v2 else v1))), (2, (aI (if v2 > v1 then v2 else v1))), (11, (aI v14)), (12, (.bool v15))] ?_
                    refine AE_seqN ?_
                    refine zs hT [0, 1, 2, 11, 78] [(0, (.ptr 0 0)), (1, (aI (if v2 < v1 then v2 else v1))), (2, (aI (if v2 > v1 then v2 else v1))), (11, (aI v14)), (78, (.bool v15))] ?_
                    rcases bif_split h with ⟨h20, h⟩ | ⟨h20, h⟩
                    · refine zT h20 ?_
                      refine zs hT [6] [(6, (aI v14))] ?_
                      refine AE_ret ?_
                      refine AE_seqR ?_
                      refine zK [6] [(6, (aI v14))] ?_
                      simp only [Option.some.injEq, Prod.mk.injEq] at h
                      obtain ⟨rfl, rfl, rfl⟩ := h
                      exact zEnd
                    · refine zN h20 ?_
                      refine AE_skip ?_
                      refine AE_seqN ?_
                      refine AW_seq ?_
                      refine AW_seq ?_
                      obtain ⟨⟨v18, v19, v20, v21⟩, h21, h⟩ := bsm h
                      try dsimp only at h
                      refine AW_reg ?_
                      refine zm hT 3 [0, 1, 2, 81, 82, 83] [(0, (.ptr 0 0)), (1, (aI (if v2 < v1 then v2 else v1))), (2, (aI (if v2 > v1 then v2 else v1))), (81, (.ptr 0 0)), (82, (aI (if v2 > v1 then v2 else v1))), (83, (aI (if v2 < v1 then v2 else v1)))] ?_
                      refine zO (jC Go.Proofs.Try.func79 (Fn_in (L := [.cells [(.gr 1 (l75 v16).length), (.map 2)], .row false 76 2 (l75 v16), .map (mE e75 e2 v17)]) (args' := [(.ptr 0 0), (aI (if v2 > v1 then v2 else v1)), (aI (if v2 < v1 then v2 else v1))]) (res' := (.tup [(aI v18), (.bool v19)])) (L'' := [.cells [(.gr 1 (l75 v20).length), (.map 2)], .row false 76 2 (l75 v20), .map (mE e75 e2 v21)]) [0, 1, 2] (ih_F79 k12 h13 (if v2 > v1 then v2 else v1) (if v2 < v1 then v2 else v1) v16 v17 v18 v19 v20 v21 h21) rfl (by decide) ⟨(by simp [AV.ren, AV.rens, AObj.ren, gname]), (by simp [AV.ren, AV.rens, AObj.ren, gname]), (by simp [AV.ren, AV.rens, AObj.ren, gname]), trivial⟩ (by simp [AV.low, AV.lows, AObj.low]) (by simp [AV.low, AV.lows, AObj.low]) (by kernel_rfl) (by simp [AV.ren, AV.rens, AObj.ren, gname, putBack]) (by simp [AV.ren, AV.rens, AObj.ren, gname, putBack]) (by simp [AV.ren, AV.rens, AObj.ren, gname, putBack]))) ?_
                      refine ze hT 5 [0, 1, 2, 13, 14] [(0, (.ptr 0 0)), (1, (aI (if v2 < v1 then v2 else v1))), (2, (aI (if v2 > v1 then v2 else v1))), (13, (aI v18)), (14, (.bool v19))] ?_
                      refine AE_seqN ?_
                      refine zs hT [0, 1, 2, 13, 87] [(0, (.ptr 0 0)), (1, (aI (if v2 < v1 then v2 else v1))), (2, (aI (if v2 > v1 then v2 else v1))), (13, (aI v18)), (87, (.bool v19))] ?_
                      rcases bif_split h with ⟨h22, h⟩ | ⟨h22, h⟩
                      · refine zT h22 ?_
                        refine zs hT [6] [(6, (aI v18))] ?_
                        refine AE_ret ?_
                        refine AE_seqR ?_
                        refine zK [6] [(6, (aI v18))] ?_
                        simp only [Option.some.injEq, Prod.mk.injEq] at h
                        obtain ⟨rfl, rfl, rfl⟩ := h
                        exact zEnd
                      · refine zN h22 ?_
                        refine AE_skip ?_
                        refine AE_seqN ?_
                        refine zS hT [0, 15] [(0, (.ptr 0 0)), (15, (.ptr 3 0))] [.cells [(.gr 1 (l75 v20).length), (.map 2)], .row false 76 2 (l75 v20), .map (mE e75 e2 v21), .cells [(aI (if v2 < v1 then v2 else v1)), (aI (if v2 > v1 then v2 else v1))]] ?_
                        refine AW_seq ?_
                        refine AW_seq ?_
                        refine AW_drx hmix [⟨(.ptr 0 0), [], 0, 0, false⟩, ⟨(.ptr 0 0), [0], 0, 0, false⟩, ⟨(.ptr 0 1), [0, 1], 0, 0, false⟩, ⟨(.map 2), [0, 1, 2], 0, 0, false⟩, ⟨(.agg [(aI (if v2 < v1 then v2 else v1)), (aI (if v2 > v1 then v2 else v1))]), [], 0, 0, false⟩, ⟨(.tup [(aI ((getM q75 v21 (T75.mk (if v2 < v1 then v2 else v1) (if v2 > v1 then v2 else v1))).getD 0)), (.bool (getM q75 v21 (T75.mk (if v2 < v1 then v2 else v1) (if v2 > v1 then v2 else v1))).isSome)]), [0, 1, 2, 3, 4], 0, 0, false⟩, ⟨(.tup [(aI ((getM q75 v21 (T75.mk (if v2 < v1 then v2 else v1) (if v2 > v1 then v2 else v1))).getD 0)), (.bool (getM q75 v21 (T75.mk (if v2 < v1 then v2 else v1) (if v2 > v1 then v2 else v1))).isSome)]), [0, 1, 2, 3, 4, 5], 0, 0, false⟩, ⟨(aI ((getM q75 v21 (T75.mk (if v2 < v1 then v2 else v1) (if v2 > v1 then v2 else v1))).getD 0)), [0, 1, 2, 3, 4, 5, 6], 0, 0, false⟩, ⟨(.bool (getM q75 v21 (T75.mk (if v2 < v1 then v2 else v1) (if v2 > v1 then v2 else v1))).isSome), [0, 1, 2, 3, 4, 5, 6], 0, 0, false⟩, ⟨(aI ((getM q75 v21 (T75.mk (if v2 < v1 then v2 else v1) (if v2 > v1 then v2 else v1))).getD 0)), [0, 1, 2, 3, 4, 5, 6, 7], 0, 0, false⟩, ⟨(.bool (getM q75 v21 (T75.mk (if v2 < v1 then v2 else v1) (if v2 > v1 then v2 else v1))).isSome), [0, 1, 2, 3, 4, 5, 6, 7, 8, 9], 0, 0, false⟩] [] (fun _ => [.cells [(.gr 1 (l75 v20).length), (.map 2)], .row false 76 2 (l75 v20), .map (mE e75 e2 v21), .cells [(aI (if v2 < v1 then v2 else v1)), (aI (if v2 > v1 then v2 else v1))]]) [0, 15, 16, 17] [(0, (.ptr 0 0)), (15, (.ptr 3 0)), (16, (aI ((getM q75 v21 (T75.mk (if v2 < v1 then v2 else v1) (if v2 > v1 then v2 else v1))).getD 0))), (17, (.bool (getM q75 v21 (T75.mk (if v2 < v1 then v2 else v1) (if v2 > v1 then v2 else v1))).isSome))] [.cells [(.gr 1 (l75 v20).length), (.map 2)], .row false 76 2 (l75 v20), .map (mE e75 e2 v21), .cells [(aI (if v2 < v1 then v2 else v1)), (aI (if v2 > v1 then v2 else v1))]] (by kernel_rfl) rfl rfl (by kernel_rfl) ?_ ?_
                        · refine SA_plain hT 5 (by kernel_rfl) ?_
                          refine SA_at 0 (v := (.tup [(aI ((getM q75 v21 (T75.mk (if v2 < v1 then v2 else v1) (if v2 > v1 then v2 else v1))).getD 0)), (.bool (getM q75 v21 (T75.mk (if v2 < v1 then v2 else v1) (if v2 > v1 then v2 else v1))).isSome)])) (Lp := [.cells [(.gr 1 (l75 v20).length), (.map 2)], .row false 76 2 (l75 v20), .map (mE e75 e2 v21), .cells [(aI (if v2 < v1 then v2 else v1)), (aI (if v2 > v1 then v2 else v1))]]) (Lq := [.cells [(.gr 1 (l75 v20).length), (.map 2)], .row false 76 2 (l75 v20), .map (mE e75 e2 v21), .cells [(aI (if v2 < v1 then v2 else v1)), (aI (if v2 > v1 then v2 else v1))]]) (by kernel_rfl) (by kernel_rfl) (by kernel_rfl) (by kernel_rfl) (by kernel_rfl) (by kernel_rfl) (OpJ_lookE hT e75 e2 q75 (kt := 76) (et := 3) (r := 2) (ok := true) v21 (T75.mk (if v2 < v1 then v2 else v1) (if v2 > v1 then v2 else v1)) 0 flat76 q75_eq76 (by kernel_rfl) (by kernel_rfl) (by kernel_rfl)) ?_
                          refine SA_plain hT 5 (by kernel_rfl) ?_
                          exact SA_end (by kernel_rfl)
                        refine AE_seqN ?_
                        refine zs hT [0, 15, 16, 101] [(0, (.ptr 0 0)), (15, (.ptr 3 0)), (16, (aI ((getM q75 v21 (T75.mk (if v2 < v1 then v2 else v1) (if v2 > v1 then v2 else v1))).getD 0))), (101, (.bool (getM q75 v21 (T75.mk (if v2 < v1 then v2 else v1) (if v2 > v1 then v2 else v1))).isSome))] ?_
                        rcases bif_split h with ⟨h23, h⟩ | ⟨h23, h⟩
                        · refine zT h23 ?_
                          refine zs hT [6] [(6, (aI ((getM q75 v21 (T75.mk (if v2 < v1 then v2 else v1) (if v2 > v1 then v2 else v1))).getD 0)))] ?_
                          refine AE_ret ?_
                          refine AE_seqR ?_
                          refine zK [6] [(6, (aI ((getM q75 v21 (T75.mk (if v2 < v1 then v2 else v1) (if v2 > v1 then v2 else v1))).getD 0)))] ?_
                          simp only [Option.some.injEq, Prod.mk.injEq] at h
                          obtain ⟨rfl, rfl, rfl⟩ := h
                          exact zEnd
                        · refine zN h23 ?_
                          refine AE_skip ?_
                          refine AE_seqN ?_
                          refine AW_seq ?_
                          obtain ⟨⟨v22, v23⟩, h24, h⟩ := bsm h
                          try dsimp only at h
                          refine AW_reg ?_
                          refine zm hT 2 [0, 15, 103, 104] [(0, (.ptr 0 0)), (15, (.ptr 3 0)), (103, (.ptr 0 0)), (104, (.agg [(aI (if v2 < v1 then v2 else v1)), (aI (if v2 > v1 then v2 else v1))]))] ?_
                          refine zO (jC Go.Proofs.Try.func44 (Fn_in (L := [.cells [(.gr 1 (l75 v20).length), (.map 2)], .row false 76 2 (l75 v20), .map (mE e75 e2 v21), .cells [(aI (if v2 < v1 then v2 else v1)), (aI (if v2 > v1 then v2 else v1))]]) (args' := [(.ptr 0 0), (.agg [(aI (if v2 < v1 then v2 else v1)), (aI (if v2 > v1 then v2 else v1))])]) (res' := (aI v22)) (L'' := [.cells [(.gr 1 (l75 v23).length), (.map 2)], .row false 76 2 (l75 v23), .map (mE e75 e2 v21), .cells [(aI (if v2 < v1 then v2 else v1)), (aI (if v2 > v1 then v2 else v1))]]) [0, 1, 2] (F44_ok k12 (if v2 < v1 then v2 else v1) (if v2 > v1 then v2 else v1) v20 v21 v22 v23 h24) rfl (by decide) ⟨(by simp [AV.ren, AV.rens, AObj.ren, gname]), (by simp [AV.ren, AV.rens, AObj.ren, gname]), (by simp [AV.ren, AV.rens, AObj.ren, gname]), trivial⟩ (by simp [AV.low, AV.lows, AObj.low]) (by simp [AV.low, AV.lows, AObj.low]) (by kernel_rfl) (by simp [AV.ren, AV.rens, AObj.ren, gname, putBack]) (by simp [AV.ren, AV.rens, AObj.ren, gname, putBack]) (by simp [AV.ren, AV.rens, AObj.ren, gname, putBack]))) ?_
                          refine ze hT 1 [0, 15, 18] [(0, (.ptr 0 0)), (15, (.ptr 3 0)), (18, (aI v22))] ?_
                          refine AE_seqN ?_
                          refine AW_seq ?_
                          refine zs hT [0, 15, 18, 107] [(0, (.ptr 0 0)), (15, (.ptr 3 0)), (18, (aI v22)), (107, (.bool (v22 != (-1))))] ?_
                          rcases bif_split h with ⟨h25, h⟩ | ⟨h25, h⟩
                          · refine zT h25 ?_
                            refine AW_drx hmix [⟨(.ptr 0 0), [], 0, 0, false⟩, ⟨(.ptr 0 0), [0], 0, 0, false⟩, ⟨(.ptr 0 1), [0, 1], 0, 0, false⟩, ⟨(.map 2), [0, 1, 2], 0, 0, false⟩, ⟨(.agg [(aI (if v2 < v1 then v2 else v1)), (aI (if v2 > v1 then v2 else v1))]), [], 0, 0, false⟩, ⟨(aI v22), [], 0, 0, false⟩, ⟨.any, [0, 1, 2, 3, 4, 5], 0, 0, true⟩] [6] (fun p => match p with | 0 => [.cells [(.gr 1 (l75 v23).length), (.map 2)], .row false 76 2 (l75 v23), .map (mE e75 e2 v21), .cells [(aI (if v2 < v1 then v2 else v1)), (aI (if v2 > v1 then v2 else v1))]] | _ => [.cells [(.gr 1 (l75 v23).length), (.map 2)], .row false 76 2 (l75 v23), .map (mE e75 e2 (putM q75 v21 (T75.mk (if v2 < v1 then v2 else v1) (if v2 > v1 then v2 else v1)) v22)), .cells [(aI (if v2 < v1 then v2 else v1)), (aI (if v2 > v1 then v2 else v1))]]) [18] [(18, (aI v22))] [.cells [(.gr 1 (l75 v23).length), (.map 2)], .row false 76 2 (l75 v23), .map (mE e75 e2 (putM q75 v21 (T75.mk (if v2 < v1 then v2 else v1) (if v2 > v1 then v2 else v1)) v22)), .cells [(aI (if v2 < v1 then v2 else v1)), (aI (if v2 > v1 then v2 else v1))]] (by kernel_rfl) rfl rfl (by kernel_rfl) ?_ ?_
                            · refine SA_plain hT 6 (by kernel_rfl) ?_
                              refine SA_at 0 (v := .any) (Lp := [.cells [(.gr 1 (l75 v23).length), (.map 2)], .row false 76 2 (l75 v23), .map (mE e75 e2 v21), .cells [(aI (if v2 < v1 then v2 else v1)), (aI (if v2 > v1 then v2 else v1))]]) (Lq := [.cells [(.gr 1 (l75 v23).length), (.map 2)], .row false 76 2 (l75 v23), .map (mE e75 e2 (putM q75 v21 (T75.mk (if v2 < v1 then v2 else v1) (if v2 > v1 then v2 else v1)) v22)), .cells [(aI (if v2 < v1 then v2 else v1)), (aI (if v2 > v1 then v2 else v1))]]) (by kernel_rfl) (by kernel_rfl) (by kernel_rfl) (by kernel_rfl) (by kernel_rfl) (by kernel_rfl) (OpJ_mupE hT e75 e2 q75 (kt := 76) (r := 2) v21 (T75.mk (if v2 < v1 then v2 else v1) (if v2 > v1 then v2 else v1)) v22 [.cells [(.gr 1 (l75 v23).length), (.map 2)], .row false 76 2 (l75 v23), .map (mE e75 e2 (putM q75 v21 (T75.mk (if v2 < v1 then v2 else v1) (if v2 > v1 then v2 else v1)) v22)), .cells [(aI (if v2 < v1 then v2 else v1)), (aI (if v2 > v1 then v2 else v1))]] flat76 q75_eq76 (by kernel_rfl) (by kernel_rfl) (by kernel_rfl)) ?_
                              exact SA_end (by kernel_rfl)
                            refine AE_seqN ?_
                            refine zs hT [6] [(6, (aI v22))] ?_
                            refine AE_ret ?_
                            refine zK [6] [(6, (aI v22))] ?_
                            simp only [Option.some.injEq, Prod.mk.injEq] at h
                            obtain ⟨rfl, rfl, rfl⟩ := h
                            exact zEnd
                          · refine zN h25 ?_
                            refine AE_skip ?_
                            refine AE_seqN ?_
                            refine zs hT [6] [(6, (aI v22))] ?_
                            refine AE_ret ?_
                            refine zK [6] [(6, (aI v22))] ?_
                            simp only [Option.some.injEq, Prod.mk.injEq] at h
                            obtain ⟨rfl, rfl, rfl⟩ := h
                            exact zEnd

theorem F79_all (K0 : Nat) : (∀ (v1 : Int) (v2 : Int) (v3 : (List T75)) (v4 : (List (T75 × Int))) (r1 : Int) (r2 : Bool) (r3 : (List T75)) (r4 : (List (T75 × Int))), F79 K0 v1 v2 v3 v4 = some (r1, r2, r3, r4) → Fn prog 79 [(.ptr 0 0), (aI v1), (aI v2)] [.cells [(.gr 1 (l75 v3).length), (.map 2)], .row false 76 2 (l75 v3), .map (mE e75 e2 v4)] (.tup [(aI r1), (.bool r2)]) [.cells [(.gr 1 (l75 r3).length), (.map 2)], .row false 76 2 (l75 r3), .map (mE e75 e2 r4)]) ∧ (∀ (v1 : Int) (v2 : Int) (v3 : (List T75)) (v4 : (List (T75 × Int))) (r1 : Int) (r2 : (List T75)) (r3 : (List (T75 × Int))), F65 K0 v1 v2 v3 v4 = some (r1, r2, r3) → Fn prog 65 [(.ptr 0 0), (aI v1), (aI v2)] [.cells [(.gr 1 (l75 v3).length), (.map 2)], .row false 76 2 (l75 v3), .map (mE e75 e2 v4)] (aI r1) [.cells [(.gr 1 (l75 r2).length), (.map 2)], .row false 76 2 (l75 r2), .map (mE e75 e2 r3)]) := by
  induction K0 using Nat.strongRecOn with
  | ind K0 ih => exact ⟨F79_step K0 (fun k hk => (ih k hk).1) (fun k hk => (ih k hk).2), F65_step K0 (fun k hk => (ih k hk).1) (fun k hk => (ih k hk).2)⟩

theorem F79_ok (K0 : Nat) : ∀ (v1 : Int) (v2 : Int) (v3 : (List T75)) (v4 : (List (T75 × Int))) (r1 : Int) (r2 : Bool) (r3 : (List T75)) (r4 : (List (T75 × Int))), F79 K0 v1 v2 v3 v4 = some (r1, r2, r3, r4) → Fn prog 79 [(.ptr 0 0), (aI v1), (aI v2)] [.cells [(.gr 1 (l75 v3).length), (.map 2)], .row false 76 2 (l75 v3), .map (mE e75 e2 v4)] (.tup [(aI r1), (.bool r2)]) [.cells [(.gr 1 (l75 r3).length), (.map 2)], .row false 76 2 (l75 r3), .map (mE e75 e2 r4)] := (F79_all K0).1

theorem F65_ok (K0 : Nat) : ∀ (v1 : Int) (v2 : Int) (v3 : (List T75)) (v4 : (List (T75 × Int))) (r1 : Int) (r2 : (List T75)) (r3 : (List (T75 × Int))), F65 K0 v1 v2 v3 v4 = some (r1, r2, r3) → Fn prog 65 [(.ptr 0 0), (aI v1), (aI v2)] [.cells [(.gr 1 (l75 v3).length), (.map 2)], .row false 76 2 (l75 v3), .map (mE e75 e2 v4)] (aI r1) [.cells [(.gr 1 (l75 r2).length), (.map 2)], .row false 76 2 (l75 r2), .map (mE e75 e2 r3)] := (F79_all K0).2

def F73 (k : Nat) (v1 : Int) : Option (Int) :=
  (bif (decide (v1 < 0)) then
    some ((-1))
  else
    some ((bits .xor .i64 v1 1)))

theorem F73_ok (k : Nat) : ∀ (v1 : Int) (r1 : Int), F73 k v1 = some (r1) → Fn prog 73 [(aI v1)] [] (aI r1) [] := by
  intro v1 r1 h
  rw [F73] at h
  refine Fn_bodyK hT Go.Proofs.Try.func73 (c := Go.Proofs.Try.f73.body.getD .skip) (by kernel_rfl) (by kernel_rfl) (by kernel_rfl) ?_
  refine zs hT [0] [(0, (aI v1))] ?_
  refine AW_seq ?_
  refine zs hT [0, 4] [(0, (aI v1)), (4, (.bool (decide (v1 < 0))))] ?_
  rcases bif_split h with ⟨h1, h⟩ | ⟨h1, h⟩
  · refine zT h1 ?_
    refine zs hT [2] [(2, (aI (-1)))] ?_
    refine AE_ret ?_
    refine AE_seqR ?_
    refine zK [2] [(2, (aI (-1)))] ?_
    simp only [Option.some.injEq] at h
    subst h
    exact zEnd
  · refine zN h1 ?_
    refine AE_skip ?_
    refine AE_seqN ?_
    refine zs hT [2] [(2, (aI (bits .xor .i64 v1 1)))] ?_
    refine AE_ret ?_
    refine zK [2] [(2, (aI (bits .xor .i64 v1 1)))] ?_
    simp only [Option.some.injEq] at h
    subst h
    exact zEnd

def F72 (k : Nat) (v1 : Int) (v2 : Int) (v3 : (List T75)) (v4 : (List (T75 × Int))) : Option (Int × (List T75) × (List (T75 × Int))) :=
  ((F73 k v1).bind fun v5 =>
    ((F73 k v2).bind fun v6 =>
      ((F65 k v5 v6 v3 v4).bind fun ⟨v7, v8, v9⟩ =>
        ((F73 k v7).bind fun v10 =>
          some (v10, v8, v9)))))

theorem F72_ok (k : Nat) : ∀ (v1 : Int) (v2 : Int) (v3 : (List T75)) (v4 : (List (T75 × Int))) (r1 : Int) (r2 : (List T75)) (r3 : (List (T75 × Int))), F72 k v1 v2 v3 v4 = some (r1, r2, r3) → Fn prog 72 [(.ptr 0 0), (aI v1), (aI v2)] [.cells [(.gr 1 (l75 v3).length), (.map 2)], .row false 76 2 (l75 v3), .map (mE e75 e2 v4)] (aI r1) [.cells [(.gr 1 (l75 r2).length), (.map 2)], .row false 76 2 (l75 r2), .map (mE e75 e2 r3)] := by
  intro v1 v2 v3 v4 r1 r2 r3 h
  rw [F72] at h
  refine Fn_bodyK hT Go.Proofs.Try.func72 (c := Go.Proofs.Try.f72.body.getD .skip) (by kernel_rfl) (by kernel_rfl) (by kernel_rfl) ?_
  refine zs hT [0, 1, 2] [(0, (.ptr 0 0)), (1, (aI v1)), (2, (aI v2))] ?_
  refine AW_seq ?_
  obtain ⟨v5, h1, h⟩ := bsm h
  try dsimp only at h
  obtain ⟨v6, h2, h⟩ := bsm h
  try dsimp only at h
  obtain ⟨⟨v7, v8, v9⟩, h3, h⟩ := bsm h
  try dsimp only at h
  obtain ⟨v10, h4, h⟩ := bsm h
  try dsimp only at h
  refine AW_reg ?_
  refine zm hT 2 [2, 7, 8] [(2, (aI v2)), (7, (.ptr 0 0)), (8, (aI v1))] ?_
  refine zO (jP Go.Proofs.Try.func73 (F73_ok k v1 v5 h1)) ?_
  refine zm hT 1 [7, 9, 10] [(7, (.ptr 0 0)), (9, (aI v5)), (10, (aI v2))] ?_
  refine zO (jP Go.Proofs.Try.func73 (F73_ok k v2 v6 h2)) ?_
  refine zO (jC Go.Proofs.Try.func65 (Fn_in (L := [.cells [(.gr 1 (l75 v3).length), (.map 2)], .row false 76 2 (l75 v3), .map (mE e75 e2 v4)]) (args' := [(.ptr 0 0), (aI v5), (aI v6)]) (res' := (aI v7)) (L'' := [.cells [(.gr 1 (l75 v8).length), (.map 2)], .row false 76 2 (l75 v8), .map (mE e75 e2 v9)]) [0, 1, 2] (F65_ok k v5 v6 v3 v4 v7 v8 v9 h3) rfl (by decide) ⟨(by simp [AV.ren, AV.rens, AObj.ren, gname]), (by simp [AV.ren, AV.rens, AObj.ren, gname]), (by simp [AV.ren, AV.rens, AObj.ren, gname]), trivial⟩ (by simp [AV.low, AV.lows, AObj.low]) (by simp [AV.low, AV.lows, AObj.low]) (by kernel_rfl) (by simp [AV.ren, AV.rens, AObj.ren, gname, putBack]) (by simp [AV.ren, AV.rens, AObj.ren, gname, putBack]) (by simp [AV.ren, AV.rens, AObj.ren, gname, putBack]))) ?_
  refine zO (jP Go.Proofs.Try.func73 (F73_ok k v7 v10 h4)) ?_
  refine ze hT 1 [6] [(6, (aI v10))] ?_
  refine AE_seqN ?_
  refine AE_ret ?_
  refine zK [6] [(6, (aI v10))] ?_
  simp only [Option.some.injEq, Prod.mk.injEq] at h
  obtain ⟨rfl, rfl, rfl⟩ := h
  exact zEnd

def F49 (k : Nat) (v1 : Int) (v2 : Int) (v3 : Int) (v4 : (List T75)) (v5 : (List (T75 × Int))) : Option (Int × (List T75) × (List (T75 × Int))) :=
  ((F65 k v1 v2 v4 v5).bind fun ⟨v6, v7, v8⟩ =>
    ((F73 k v1).bind fun v9 =>
      ((F65 k v9 v3 v7 v8).bind fun ⟨v10, v11, v12⟩ =>
        ((F72 k v6 v10 v11 v12).bind fun ⟨v13, v14, v15⟩ =>
          some (v13, v14, v15)))))

theorem F49_ok (k : Nat) : ∀ (v1 : Int) (v2 : Int) (v3 : Int) (v4 : (List T75)) (v5 : (List (T75 × Int))) (r1 : Int) (r2 : (List T75)) (r3 : (List (T75 × Int))), F49 k v1 v2 v3 v4 v5 = some (r1, r2, r3) → Fn prog 49 [(.ptr 0 0), (aI v1), (aI v2), (aI v3)] [.cells [(.gr 1 (l75 v4).length), (.map 2)], .row false 76 2 (l75 v4), .map (mE e75 e2 v5)] (aI r1) [.cells [(.gr 1 (l75 r2).length), (.map 2)], .row false 76 2 (l75 r2), .map (mE e75 e2 r3)] := by
  intro v1 v2 v3 v4 v5 r1 r2 r3 h
  rw [F49] at h
  refine Fn_bodyK hT Go.Proofs.Try.func49 (c := Go.Proofs.Try.f49.body.getD .skip) (by kernel_rfl) (by kernel_rfl) (by kernel_rfl) ?_
  refine zs hT [0, 1, 2, 3] [(0, (.ptr 0 0)), (1, (aI v1)), (2, (aI v2)), (3, (aI v3))] ?_
  refine AW_seq ?_
  obtain ⟨⟨v6, v7, v8⟩, h1, h⟩ := bsm h
  try dsimp only at h
  refine AW_reg ?_
  refine zm hT 3 [0, 1, 3, 10, 11, 12] [(0, (.ptr 0 0)), (1, (aI v1)), (3, (aI v3)), (10, (.ptr 0 0)), (11, (aI v1)), (12, (aI v2))] ?_
  refine zO (jC Go.Proofs.Try.func65 (Fn_in (L := [.cells [(.gr 1 (l75 v4).length), (.map 2)], .row false 76 2 (l75 v4), .map (mE e75 e2 v5)]) (args' := [(.ptr 0 0), (aI v1), (aI v2)]) (res' := (aI v6)) (L'' := [.cells [(.gr 1 (l75 v7).length), (.map 2)], .row false 76 2 (l75 v7), .map (mE e75 e2 v8)]) [0, 1, 2] (F65_ok k v1 v2 v4 v5 v6 v7 v8 h1) rfl (by decide) ⟨(by simp [AV.ren, AV.rens, AObj.ren, gname]), (by simp [AV.ren, AV.rens, AObj.ren, gname]), (by simp [AV.ren, AV.rens, AObj.ren, gname]), trivial⟩ (by simp [AV.low, AV.lows, AObj.low]) (by simp [AV.low, AV.lows, AObj.low]) (by kernel_rfl) (by simp [AV.ren, AV.rens, AObj.ren, gname, putBack]) (by simp [AV.ren, AV.rens, AObj.ren, gname, putBack]) (by simp [AV.ren, AV.rens, AObj.ren, gname, putBack]))) ?_
  refine ze hT 1 [0, 1, 3, 9] [(0, (.ptr 0 0)), (1, (aI v1)), (3, (aI v3)), (9, (aI v6))] ?_
  refine AE_seqN ?_
  refine AW_seq ?_
  obtain ⟨v9, h2, h⟩ := bsm h
  try dsimp only at h
  obtain ⟨⟨v10, v11, v12⟩, h3, h⟩ := bsm h
  try dsimp only at h
  obtain ⟨⟨v13, v14, v15⟩, h4, h⟩ := bsm h
  try dsimp only at h
  refine AW_reg ?_
  refine zm hT 4 [3, 14, 15, 16, 17] [(3, (aI v3)), (14, (.ptr 0 0)), (15, (aI v6)), (16, (.ptr 0 0)), (17, (aI v1))] ?_
  refine zO (jP Go.Proofs.Try.func73 (F73_ok k v1 v9 h2)) ?_
  refine zm hT 1 [14, 15, 16, 18, 19] [(14, (.ptr 0 0)), (15, (aI v6)), (16, (.ptr 0 0)), (18, (aI v9)), (19, (aI v3))] ?_
  refine zO (jC Go.Proofs.Try.func65 (Fn_in (L := [.cells [(.gr 1 (l75 v7).length), (.map 2)], .row false 76 2 (l75 v7), .map (mE e75 e2 v8)]) (args' := [(.ptr 0 0), (aI v9), (aI v3)]) (res' := (aI v10)) (L'' := [.cells [(.gr 1 (l75 v11).length), (.map 2)], .row false 76 2 (l75 v11), .map (mE e75 e2 v12)]) [0, 1, 2] (F65_ok k v9 v3 v7 v8 v10 v11 v12 h3) rfl (by decide) ⟨(by simp [AV.ren, AV.rens, AObj.ren, gname]), (by simp [AV.ren, AV.rens, AObj.ren, gname]), (by simp [AV.ren, AV.rens, AObj.ren, gname]), trivial⟩ (by simp [AV.low, AV.lows, AObj.low]) (by simp [AV.low, AV.lows, AObj.low]) (by kernel_rfl) (by simp [AV.ren, AV.rens, AObj.ren, gname, putBack]) (by simp [AV.ren, AV.rens, AObj.ren, gname, putBack]) (by simp [AV.ren, AV.rens, AObj.ren, gname, putBack]))) ?_
  refine zO (jC Go.Proofs.Try.func72 (Fn_in (L := [.cells [(.gr 1 (l75 v11).length), (.map 2)], .row false 76 2 (l75 v11), .map (mE e75 e2 v12)]) (args' := [(.ptr 0 0), (aI v6), (aI v10)]) (res' := (aI v13)) (L'' := [.cells [(.gr 1 (l75 v14).length), (.map 2)], .row false 76 2 (l75 v14), .map (mE e75 e2 v15)]) [0, 1, 2] (F72_ok k v6 v10 v11 v12 v13 v14 v15 h4) rfl (by decide) ⟨(by simp [AV.ren, AV.rens, AObj.ren, gname]), (by simp [AV.ren, AV.rens, AObj.ren, gname]), (by simp [AV.ren, AV.rens, AObj.ren, gname]), trivial⟩ (by simp [AV.low, AV.lows, AObj.low]) (by simp [AV.low, AV.lows, AObj.low]) (by kernel_rfl) (by simp [AV.ren, AV.rens, AObj.ren, gname, putBack]) (by simp [AV.ren, AV.rens, AObj.ren, gname, putBack]) (by simp [AV.ren, AV.rens, AObj.ren, gname, putBack]))) ?_
  refine ze hT 1 [8] [(8, (aI v13))] ?_
  refine AE_seqN ?_
  refine AE_ret ?_
  refine zK [8] [(8, (aI v13))] ?_
  simp only [Option.some.injEq, Prod.mk.injEq] at h
  obtain ⟨rfl, rfl, rfl⟩ := h
  exact zEnd

def F48 (k : Nat) (v1 : Int) (v2 : Int) (v3 : (List T75)) (v4 : (List (T75 × Int))) (v5 : Int) : Option (Int × (List T75) × (List (T75 × Int))) :=
  ((F49 k v5 v1 v2 v3 v4).bind fun ⟨v6, v7, v8⟩ =>
    some (v6, v7, v8))

theorem F48_ok (k : Nat) : ∀ (v1 : Int) (v2 : Int) (v3 : (List T75)) (v4 : (List (T75 × Int))) (v5 : Int) (r1 : Int) (r2 : (List T75)) (r3 : (List (T75 × Int))), F48 k v1 v2 v3 v4 v5 = some (r1, r2, r3) → Fn prog 48 [(aI v1), (aI v2), (.ptr 0 0), (.ptr 4 0)] [.cells [(.ptr 1 0)], .cells [(.gr 2 (l75 v3).length), (.map 3)], .row false 76 2 (l75 v3), .map (mE e75 e2 v4), .cells [(aI v5)]] (aI r1) [.cells [(.ptr 1 0)], .cells [(.gr 2 (l75 r2).length), (.map 3)], .row false 76 2 (l75 r2), .map (mE e75 e2 r3), .cells [(aI v5)]] := by
  intro v1 v2 v3 v4 v5 r1 r2 r3 h
  rw [F48] at h
  refine Fn_bodyK hT Go.Proofs.Try.func48 (c := Go.Proofs.Try.f48.body.getD .skip) (by kernel_rfl) (by kernel_rfl) (by kernel_rfl) ?_
  refine zs hT [0, 1, 2, 3] [(0, (aI v1)), (1, (aI v2)), (2, (.ptr 0 0)), (3, (.ptr 4 0))] ?_
  refine AW_seq ?_
  obtain ⟨⟨v6, v7, v8⟩, h1, h⟩ := bsm h
  try dsimp only at h
  refine AW_reg ?_
  refine zm hT 4 [7, 8, 9, 10] [(7, (.ptr 1 0)), (8, (aI v5)), (9, (aI v1)), (10, (aI v2))] ?_
  refine zO (jC Go.Proofs.Try.func49 (Fn_in (L := [.cells [(.ptr 1 0)], .cells [(.gr 2 (l75 v3).length), (.map 3)], .row false 76 2 (l75 v3), .map (mE e75 e2 v4), .cells [(aI v5)]]) (args' := [(.ptr 1 0), (aI v5), (aI v1), (aI v2)]) (res' := (aI v6)) (L'' := [.cells [(.ptr 1 0)], .cells [(.gr 2 (l75 v7).length), (.map 3)], .row false 76 2 (l75 v7), .map (mE e75 e2 v8), .cells [(aI v5)]]) [1, 2, 3] (F49_ok k v5 v1 v2 v3 v4 v6 v7 v8 h1) rfl (by decide) ⟨(by simp [AV.ren, AV.rens, AObj.ren, gname]), (by simp [AV.ren, AV.rens, AObj.ren, gname]), (by simp [AV.ren, AV.rens, AObj.ren, gname]), trivial⟩ (by simp [AV.low, AV.lows, AObj.low]) (by simp [AV.low, AV.lows, AObj.low]) (by kernel_rfl) (by simp [AV.ren, AV.rens, AObj.ren, gname, putBack]) (by simp [AV.ren, AV.rens, AObj.ren, gname, putBack]) (by simp [AV.ren, AV.rens, AObj.ren, gname, putBack]))) ?_
  refine ze hT 1 [6] [(6, (aI v6))] ?_
  refine AE_seqN ?_
  refine AE_ret ?_
  refine zK [6] [(6, (aI v6))] ?_
  simp only [Option.some.injEq, Prod.mk.injEq] at h
  obtain ⟨rfl, rfl, rfl⟩ := h
  exact zEnd

def F60 (k : Nat) (v1 : Int) (v2 : (List T75)) (v3 : (List (T75 × Int))) : Option (Bool) :=
  ((F46 k v1 v2 v3).bind fun v4 =>
    some ((!v4)))

theorem F60_ok (k : Nat) : ∀ (v1 : Int) (v2 : (List T75)) (v3 : (List (T75 × Int))) (r1 : Bool), F60 k v1 v2 v3 = some (r1) → Fn prog 60 [(aI v1), (.ptr 0 0)] [.cells [(.ptr 1 0)], .cells [(.gr 2 (l75 v2).length), (.map 3)], .row false 76 2 (l75 v2), .map (mE e75 e2 v3)] (.bool r1) [.cells [(.ptr 1 0)], .cells [(.gr 2 (l75 v2).length), (.map 3)], .row false 76 2 (l75 v2), .map (mE e75 e2 v3)] := by
  intro v1 v2 v3 r1 h
  rw [F60] at h
  refine Fn_bodyK hT Go.Proofs.Try.func60 (c := Go.Proofs.Try.f60.body.getD .skip) (by kernel_rfl) (by kernel_rfl) (by kernel_rfl) ?_
  refine zs hT [0, 1] [(0, (aI v1)), (1, (.ptr 0 0))] ?_
  refine AW_seq ?_
  obtain ⟨v4, h1, h⟩ := bsm h
  try dsimp only at h
  refine AW_reg ?_
  refine zm hT 2 [4, 5] [(4, (.ptr 1 0)), (5, (aI v1))] ?_
  refine zO (jC Go.Proofs.Try.func46 (Fn_in (L := [.cells [(.ptr 1 0)], .cells [(.gr 2 (l75 v2).length), (.map 3)], .row false 76 2 (l75 v2), .map (mE e75 e2 v3)]) (args' := [(.ptr 1 0), (aI v1)]) (res' := (.bool v4)) (L'' := [.cells [(.ptr 1 0)], .cells [(.gr 2 (l75 v2).length), (.map 3)], .row false 76 2 (l75 v2), .map (mE e75 e2 v3)]) [1, 2, 3] (F46_ok k v1 v2 v3 v4 h1) rfl (by decide) ⟨(by simp [AV.ren, AV.rens, AObj.ren, gname]), (by simp [AV.ren, AV.rens, AObj.ren, gname]), (by simp [AV.ren, AV.rens, AObj.ren, gname]), trivial⟩ (by simp [AV.low, AV.lows, AObj.low]) (by simp [AV.low, AV.lows, AObj.low]) (by kernel_rfl) (by simp [AV.ren, AV.rens, AObj.ren, gname, putBack]) (by simp [AV.ren, AV.rens, AObj.ren, gname, putBack]) (by simp [AV.ren, AV.rens, AObj.ren, gname, putBack]))) ?_
  refine ze hT 2 [3] [(3, (.bool (!v4)))] ?_
  refine AE_seqN ?_
  refine AE_ret ?_
  refine zK [3] [(3, (.bool (!v4)))] ?_
  simp only [Option.some.injEq] at h
  subst h
  exact zEnd

def F76_l0 : Nat → (List Int) → (List T75) → (List (T75 × Int)) → Int → Option (Int)
  | 0, _, _, _, _ => none
  | k1 + 1, v1, v2, v3, v4 =>
    (bif (decide (v4 < ((l2 v1).length : Int))) then
      ((idx v1 v4).bind fun v5 =>
        ((F60 k1 v5 v2 v3).bind fun v6 =>
          (bif v6 then
            some (v4)
          else
            F76_l0 k1 v1 v2 v3 (IntKind.wrap .i64 (v4 + 1)))))
    else
      some ((-1)))

def F76 (k : Nat) (v1 : (List Int)) (v2 : (List T75)) (v3 : (List (T75 × Int))) : Option (Int) :=
  F76_l0 k v1 v2 v3 0

theorem F76_ok (k : Nat) : ∀ (v1 : (List Int)) (v2 : (List T75)) (v3 : (List (T75 × Int))) (r1 : Int), F76 k v1 v2 v3 = some (r1) → Fn prog 76 [(.sl (l2 v1)), (.fn 60 [] [(.ptr 0 0)])] [.cells [(.ptr 1 0)], .cells [(.gr 2 (l75 v2).length), (.map 3)], .row false 76 2 (l75 v2), .map (mE e75 e2 v3)] (aI r1) [.cells [(.ptr 1 0)], .cells [(.gr 2 (l75 v2).length), (.map 3)], .row false 76 2 (l75 v2), .map (mE e75 e2 v3)] := by
  intro v1 v2 v3 r1 h
  rw [F76] at h
  refine Fn_bodyK hT Go.Proofs.Try.func76 (c := Go.Proofs.Try.f76.body.getD .skip) (by kernel_rfl) (by kernel_rfl) (by kernel_rfl) ?_
  refine zs hT [0, 1] [(0, (.sl (l2 v1))), (1, (.fn 60 [] [(.ptr 0 0)]))] ?_
  refine AW_seq ?_
  refine zs hT [0, 1, 7, 8] [(0, (.sl (l2 v1))), (1, (.fn 60 [] [(.ptr 0 0)])), (7, (aI ((l2 v1).length : Int))), (8, (aI 0))] ?_
  refine AW_block ?_
  refine zKw [0, 1, 7, 8] [(0, (.sl (l2 v1))), (1, (.fn 60 [] [(.ptr 0 0)])), (7, (aI ((l2 v1).length : Int))), (8, (aI 0))] ?_
  refine AW_loop (fun n env L => n ≤ k ∧ ∃ (v4 : Int), env = [(0, (.sl (l2 v1))), (1, (.fn 60 [] [(.ptr 0 0)])), (7, (aI ((l2 v1).length : Int))), (8, (aI v4))] ∧ L = [.cells [(.ptr 1 0)], .cells [(.gr 2 (l75 v2).length), (.map 3)], .row false 76 2 (l75 v2), .map (mE e75 e2 v3)] ∧ F76_l0 n v1 v2 v3 v4 = some (r1)) k ⟨Nat.le_refl _, 0, rfl, rfl, h⟩ ?_
  rintro n _ _ ⟨hn, v4, rfl, rfl, h⟩
  cases n with
  | zero => rw [F76_l0] at h; cases h
  | succ k1 =>
    rw [F76_l0] at h
    refine zs hT [0, 1, 7, 8, 9] [(0, (.sl (l2 v1))), (1, (.fn 60 [] [(.ptr 0 0)])), (7, (aI ((l2 v1).length : Int))), (8, (aI v4)), (9, (.bool (decide (v4 < ((l2 v1).length : Int)))))] ?_
    refine AW_seq ?_
    rcases bif_split h with ⟨h3, h⟩ | ⟨h3, h⟩
    · refine zT h3 ?_
      refine AE_skip ?_
      refine AE_seqN ?_
      refine AW_seq ?_
      refine AW_block ?_
      refine zs hT [0, 1, 5, 7, 8] [(0, (.sl (l2 v1))), (1, (.fn 60 [] [(.ptr 0 0)])), (5, (aI v4)), (7, (aI ((l2 v1).length : Int))), (8, (aI v4))] ?_
      refine AW_seq ?_
      obtain ⟨v5, h4, h⟩ := bsm h
      try dsimp only at h
      obtain ⟨v6, h5, h⟩ := bsm h
      try dsimp only at h
      refine AW_reg ?_
      refine zm hT 3 [0, 1, 5, 7, 8, 11, 12, 13] [(0, (.sl (l2 v1))), (1, (.fn 60 [] [(.ptr 0 0)])), (5, (aI v4)), (7, (aI ((l2 v1).length : Int))), (8, (aI v4)), (11, (.fn 60 [] [(.ptr 0 0)])), (12, (.sl (l2 v1))), (13, (aI v4))] ?_
      refine zO (jX hT 1 (i2 h4)) ?_
      refine zm hT 1 [0, 1, 5, 7, 8, 11, 15] [(0, (.sl (l2 v1))), (1, (.fn 60 [] [(.ptr 0 0)])), (5, (aI v4)), (7, (aI ((l2 v1).length : Int))), (8, (aI v4)), (11, (.fn 60 [] [(.ptr 0 0)])), (15, (aI v5))] ?_
      refine zO (jC Go.Proofs.Try.func60 (Fn_in (L := [.cells [(.ptr 1 0)], .cells [(.gr 2 (l75 v2).length), (.map 3)], .row false 76 2 (l75 v2), .map (mE e75 e2 v3)]) (args' := [(aI v5), (.ptr 0 0)]) (res' := (.bool v6)) (L'' := [.cells [(.ptr 1 0)], .cells [(.gr 2 (l75 v2).length), (.map 3)], .row false 76 2 (l75 v2), .map (mE e75 e2 v3)]) [0, 1, 2, 3] (F60_ok k1 v5 v2 v3 v6 h5) rfl (by decide) ⟨(by simp [AV.ren, AV.rens, AObj.ren, gname]), (by simp [AV.ren, AV.rens, AObj.ren, gname]), (by simp [AV.ren, AV.rens, AObj.ren, gname]), (by simp [AV.ren, AV.rens, AObj.ren, gname]), trivial⟩ (by simp [AV.low, AV.lows, AObj.low]) (by simp [AV.low, AV.lows, AObj.low]) (by kernel_rfl) (by simp [AV.ren, AV.rens, AObj.ren, gname, putBack]) (by simp [AV.ren, AV.rens, AObj.ren, gname, putBack]) (by simp [AV.ren, AV.rens, AObj.ren, gname, putBack]))) ?_
      refine zF ?_
      refine zK [0, 1, 5, 7, 8, 16] [(0, (.sl (l2 v1))), (1, (.fn 60 [] [(.ptr 0 0)])), (5, (aI v4)), (7, (aI ((l2 v1).length : Int))), (8, (aI v4)), (16, (.bool v6))] ?_
      refine AE_seqN ?_
      rcases bif_split h with ⟨h6, h⟩ | ⟨h6, h⟩
      · refine zT h6 ?_
        refine zs hT [4] [(4, (aI v4))] ?_
        refine AE_ret ?_
        refine AE_blkR ?_
        refine AE_seqR ?_
        refine AE_seqR ?_
        refine AE_blkR ?_
        refine AE_seqR ?_
        refine zK [4] [(4, (aI v4))] ?_
        simp only [Option.some.injEq] at h
        subst h
        exact zEnd
      · refine zN h6 ?_
        refine AE_skip ?_
        refine AE_blkN ?_
        refine AE_seqN ?_
        refine zr hT [0, 1, 7, 8] [(0, (.sl (l2 v1))), (1, (.fn 60 [] [(.ptr 0 0)])), (7, (aI ((l2 v1).length : Int))), (8, (aI (IntKind.wrap .i64 (v4 + 1))))] ?_
        refine zK [0, 1, 7, 8] [(0, (.sl (l2 v1))), (1, (.fn 60 [] [(.ptr 0 0)])), (7, (aI ((l2 v1).length : Int))), (8, (aI (IntKind.wrap .i64 (v4 + 1))))] ?_
        exact AE_done ⟨k1, by omega, by omega, (IntKind.wrap .i64 (v4 + 1)), rfl, rfl, h⟩
    · refine zN h3 ?_
      refine AE_exit ?_
      refine AE_seqX ?_
      refine AE_seqX ?_
      refine AE_blkH ?_
      refine AE_seqN ?_
      refine zs hT [4] [(4, (aI (-1)))] ?_
      refine AE_ret ?_
      refine zK [4] [(4, (aI (-1)))] ?_
      simp only [Option.some.injEq] at h
      subst h
      exact zEnd

def F59 (k : Nat) (v1 : (List Int)) (v2 : (List T75)) (v3 : (List (T75 × Int))) : Option (Bool) :=
  ((F76 k v1 v2 v3).bind fun v4 =>
    some ((decide (v4 ≥ 0))))

theorem F59_ok (k : Nat) : ∀ (v1 : (List Int)) (v2 : (List T75)) (v3 : (List (T75 × Int))) (r1 : Bool), F59 k v1 v2 v3 = some (r1) → Fn prog 59 [(.sl (l2 v1)), (.fn 60 [] [(.ptr 0 0)])] [.cells [(.ptr 1 0)], .cells [(.gr 2 (l75 v2).length), (.map 3)], .row false 76 2 (l75 v2), .map (mE e75 e2 v3)] (.bool r1) [.cells [(.ptr 1 0)], .cells [(.gr 2 (l75 v2).length), (.map 3)], .row false 76 2 (l75 v2), .map (mE e75 e2 v3)] := by
  intro v1 v2 v3 r1 h
  rw [F59] at h
  refine Fn_bodyK hT Go.Proofs.Try.func59 (c := Go.Proofs.Try.f59.body.getD .skip) (by kernel_rfl) (by kernel_rfl) (by kernel_rfl) ?_
  refine zs hT [0, 1] [(0, (.sl (l2 v1))), (1, (.fn 60 [] [(.ptr 0 0)]))] ?_
  refine AW_seq ?_
  obtain ⟨v4, h1, h⟩ := bsm h
  try dsimp only at h
  refine AW_reg ?_
  refine zm hT 2 [5, 6] [(5, (.sl (l2 v1))), (6, (.fn 60 [] [(.ptr 0 0)]))] ?_
  refine zO (jC Go.Proofs.Try.func76 (Fn_in (L := [.cells [(.ptr 1 0)], .cells [(.gr 2 (l75 v2).length), (.map 3)], .row false 76 2 (l75 v2), .map (mE e75 e2 v3)]) (args' := [(.sl (l2 v1)), (.fn 60 [] [(.ptr 0 0)])]) (res' := (aI v4)) (L'' := [.cells [(.ptr 1 0)], .cells [(.gr 2 (l75 v2).length), (.map 3)], .row false 76 2 (l75 v2), .map (mE e75 e2 v3)]) [0, 1, 2, 3] (F76_ok k v1 v2 v3 v4 h1) rfl (by decide) ⟨(by simp [AV.ren, AV.rens, AObj.ren, gname]), (by simp [AV.ren, AV.rens, AObj.ren, gname]), (by simp [AV.ren, AV.rens, AObj.ren, gname]), (by simp [AV.ren, AV.rens, AObj.ren, gname]), trivial⟩ (by simp [AV.low, AV.lows, AObj.low]) (by simp [AV.low, AV.lows, AObj.low]) (by kernel_rfl) (by simp [AV.ren, AV.rens, AObj.ren, gname, putBack]) (by simp [AV.ren, AV.rens, AObj.ren, gname, putBack]) (by simp [AV.ren, AV.rens, AObj.ren, gname, putBack]))) ?_
  refine ze hT 2 [4] [(4, (.bool (decide (v4 ≥ 0))))] ?_
  refine AE_seqN ?_
  refine AE_ret ?_
  refine zK [4] [(4, (.bool (decide (v4 ≥ 0))))] ?_
  simp only [Option.some.injEq] at h
  subst h
  exact zEnd

def F23_j0 (k4 : Nat) (v4 : Bool) : Option (Int) :=
  (bif v4 then
    some (1)
  else
    some (0))

def F23 (k : Nat) (v1 : (List Int)) (v2 : (List T75)) (v3 : (List (T75 × Int))) : Option (Int) :=
  (bif (decide (((l2 v1).length : Int) < 1)) then
    F23_j0 k true
  else
    (bif (decide (((l2 v1).length : Int) > 16)) then
      F23_j0 k true
    else
      ((F59 k v1 v2 v3).bind fun v5 =>
        F23_j0 k v5)))

theorem F23_ok (k : Nat) : ∀ (v1 : (List Int)) (v2 : (List T75)) (v3 : (List (T75 × Int))) (r1 : Int), F23 k v1 v2 v3 = some (r1) → Fn prog 23 [(.ptr 0 0), (.sl (l2 v1))] [.cells [(.gr 1 (l75 v2).length), (.map 2)], .row false 76 2 (l75 v2), .map (mE e75 e2 v3)] (aI r1) [.cells [(.gr 1 (l75 v2).length), (.map 2)], .row false 76 2 (l75 v2), .map (mE e75 e2 v3)] := by
  intro v1 v2 v3 r1 h
  rw [F23] at h
  refine Fn_bodyK hT Go.Proofs.Try.func23 (c := Go.Proofs.Try.f23.body.getD .skip) (by kernel_rfl) (by kernel_rfl) (by kernel_rfl) ?_
  refine zS hT [1, 2] [(1, (.sl (l2 v1))), (2, (.ptr 3 0))] [.cells [(.gr 1 (l75 v2).length), (.map 2)], .row false 76 2 (l75 v2), .map (mE e75 e2 v3), .cells [(.ptr 0 0)]] ?_
  refine AW_seq ?_
  refine AW_join (fun env L => ∃ (v4 : Bool), env = [(17, (.bool v4))] ∧ L = [.cells [(.gr 1 (l75 v2).length), (.map 2)], .row false 76 2 (l75 v2), .map (mE e75 e2 v3), .cells [(.ptr 0 0)]] ∧ ∃ n, n ≤ k ∧ F23_j0 n v4 = some (r1)) ?_ ?_
  · rcases bif_split h with ⟨h1, h⟩ | ⟨h1, h⟩
    · refine AW_reg ?_
      refine zm hT 3 [1, 2, 7] [(1, (.sl (l2 v1))), (2, (.ptr 3 0)), (7, (.bool (decide (((l2 v1).length : Int) < 1))))] ?_
      refine zO (jQ hT h1) ?_
      refine ze hT 9 [17] [(17, (.bool true))] ?_
      refine zK [17] [(17, (.bool true))] ?_
      exact AE_done ⟨true, rfl, rfl, k, by omega, h⟩
    · rcases bif_split h with ⟨h2, h⟩ | ⟨h2, h⟩
      · refine AW_reg ?_
        refine zm hT 3 [1, 2, 7] [(1, (.sl (l2 v1))), (2, (.ptr 3 0)), (7, (.bool (decide (((l2 v1).length : Int) < 1))))] ?_
        refine zO (jQ hT h1) ?_
        refine zm hT 4 [1, 2, 12] [(1, (.sl (l2 v1))), (2, (.ptr 3 0)), (12, (.bool (decide (((l2 v1).length : Int) > 16))))] ?_
        refine zO (jQ hT h2) ?_
        refine ze hT 4 [17] [(17, (.bool true))] ?_
        refine zK [17] [(17, (.bool true))] ?_
        exact AE_done ⟨true, rfl, rfl, k, by omega, h⟩
      · obtain ⟨v5, h3, h⟩ := bsm h
        try dsimp only at h
        refine AW_reg ?_
        refine zm hT 3 [1, 2, 7] [(1, (.sl (l2 v1))), (2, (.ptr 3 0)), (7, (.bool (decide (((l2 v1).length : Int) < 1))))] ?_
        refine zO (jQ hT h1) ?_
        refine zm hT 4 [1, 2, 12] [(1, (.sl (l2 v1))), (2, (.ptr 3 0)), (12, (.bool (decide (((l2 v1).length : Int) > 16))))] ?_
        refine zO (jQ hT h2) ?_
        refine zm hT 2 [13, 14, 15] [(13, (.bool false)), (14, (.sl (l2 v1))), (15, (.fn 60 [] [(.ptr 3 0)]))] ?_
        refine zO (jC Go.Proofs.Try.func59 (Fn_in (L := [.cells [(.gr 1 (l75 v2).length), (.map 2)], .row false 76 2 (l75 v2), .map (mE e75 e2 v3), .cells [(.ptr 0 0)]]) (args' := [(.sl (l2 v1)), (.fn 60 [] [(.ptr 3 0)])]) (res' := (.bool v5)) (L'' := [.cells [(.gr 1 (l75 v2).length), (.map 2)], .row false 76 2 (l75 v2), .map (mE e75 e2 v3), .cells [(.ptr 0 0)]]) [3, 0, 1, 2] (F59_ok k v1 v2 v3 v5 h3) rfl (by decide) ⟨(by simp [AV.ren, AV.rens, AObj.ren, gname]), (by simp [AV.ren, AV.rens, AObj.ren, gname]), (by simp [AV.ren, AV.rens, AObj.ren, gname]), (by simp [AV.ren, AV.rens, AObj.ren, gname]), trivial⟩ (by simp [AV.low, AV.lows, AObj.low]) (by simp [AV.low, AV.lows, AObj.low]) (by kernel_rfl) (by simp [AV.ren, AV.rens, AObj.ren, gname, putBack]) (by simp [AV.ren, AV.rens, AObj.ren, gname, putBack]) (by simp [AV.ren, AV.rens, AObj.ren, gname, putBack]))) ?_
        refine ze hT 1 [17] [(17, (.bool v5))] ?_
        refine zK [17] [(17, (.bool v5))] ?_
        exact AE_done ⟨v5, rfl, rfl, k, by omega, h⟩
  · rintro _ _ ⟨v4, rfl, rfl, n, hn, h⟩
    obtain ⟨k4, rfl⟩ : ∃ q, q = n := ⟨n, rfl⟩
    rw [F23_j0] at h
    rcases bif_split h with ⟨h6, h⟩ | ⟨h6, h⟩
    · refine zT h6 ?_
      refine zs hT [4] [(4, (aI 1))] ?_
      refine AE_ret ?_
      refine AE_seqR ?_
      refine zK [4] [(4, (aI 1))] ?_
      simp only [Option.some.injEq] at h
      subst h
      exact zEnd
    · refine zN h6 ?_
      refine AE_skip ?_
      refine AE_seqN ?_
      refine zs hT [4] [(4, (aI 0))] ?_
      refine AE_ret ?_
      refine zK [4] [(4, (aI 0))] ?_
      simp only [Option.some.injEq] at h
      subst h
      exact zEnd

def F53 (k : Nat) (v1 : (List Int)) (v2 : (List Int)) (v3 : (List T75)) (v4 : (List (T75 × Int))) : Option (Bool) :=
  (bif (((l2 v1).length : Int) == ((l2 v2).length : Int)) then
    ((F23 k v1 v3 v4).bind fun v5 =>
      (bif (v5 == 0) then
        ((F23 k v2 v3 v4).bind fun v6 =>
          some ((v6 == 0)))
      else
        some (false)))
  else
    some (false))

theorem F53_ok (k : Nat) : ∀ (v1 : (List Int)) (v2 : (List Int)) (v3 : (List T75)) (v4 : (List (T75 × Int))) (r1 : Bool), F53 k v1 v2 v3 v4 = some (r1) → Fn prog 53 [(.ptr 0 0), (.sl (l2 v1)), (.sl (l2 v2))] [.cells [(.gr 1 (l75 v3).length), (.map 2)], .row false 76 2 (l75 v3), .map (mE e75 e2 v4)] (.bool r1) [.cells [(.gr 1 (l75 v3).length), (.map 2)], .row false 76 2 (l75 v3), .map (mE e75 e2 v4)] := by
  intro v1 v2 v3 v4 r1 h
  rw [F53] at h
  refine Fn_bodyK hT Go.Proofs.Try.func53 (c := Go.Proofs.Try.f53.body.getD .skip) (by kernel_rfl) (by kernel_rfl) (by kernel_rfl) ?_
  refine zs hT [0, 1, 2] [(0, (.ptr 0 0)), (1, (.sl (l2 v1))), (2, (.sl (l2 v2)))] ?_
  refine AW_seq ?_
  rcases bif_split h with ⟨h1, h⟩ | ⟨h1, h⟩
  · obtain ⟨v5, h2, h⟩ := bsm h
    try dsimp only at h
    rcases bif_split h with ⟨h3, h⟩ | ⟨h3, h⟩
    · obtain ⟨v6, h4, h⟩ := bsm h
      try dsimp only at h
      refine AW_reg ?_
      refine zm hT 5 [0, 1, 2, 11] [(0, (.ptr 0 0)), (1, (.sl (l2 v1))), (2, (.sl (l2 v2))), (11, (.bool (((l2 v1).length : Int) == ((l2 v2).length : Int))))] ?_
      refine zO (jQ hT h1) ?_
      refine zm hT 2 [0, 2, 12, 13, 14] [(0, (.ptr 0 0)), (2, (.sl (l2 v2))), (12, (.bool true)), (13, (.ptr 0 0)), (14, (.sl (l2 v1)))] ?_
      refine zO (jC Go.Proofs.Try.func23 (Fn_in (L := [.cells [(.gr 1 (l75 v3).length), (.map 2)], .row false 76 2 (l75 v3), .map (mE e75 e2 v4)]) (args' := [(.ptr 0 0), (.sl (l2 v1))]) (res' := (aI v5)) (L'' := [.cells [(.gr 1 (l75 v3).length), (.map 2)], .row false 76 2 (l75 v3), .map (mE e75 e2 v4)]) [0, 1, 2] (F23_ok k v1 v3 v4 v5 h2) rfl (by decide) ⟨(by simp [AV.ren, AV.rens, AObj.ren, gname]), (by simp [AV.ren, AV.rens, AObj.ren, gname]), (by simp [AV.ren, AV.rens, AObj.ren, gname]), trivial⟩ (by simp [AV.low, AV.lows, AObj.low]) (by simp [AV.low, AV.lows, AObj.low]) (by kernel_rfl) (by simp [AV.ren, AV.rens, AObj.ren, gname, putBack]) (by simp [AV.ren, AV.rens, AObj.ren, gname, putBack]) (by simp [AV.ren, AV.rens, AObj.ren, gname, putBack]))) ?_
      refine zm hT 2 [0, 2, 17] [(0, (.ptr 0 0)), (2, (.sl (l2 v2))), (17, (.bool (v5 == 0)))] ?_
      refine zO (jQ hT h3) ?_
      refine zm hT 2 [18, 19, 20] [(18, (.bool true)), (19, (.ptr 0 0)), (20, (.sl (l2 v2)))] ?_
      refine zO (jC Go.Proofs.Try.func23 (Fn_in (L := [.cells [(.gr 1 (l75 v3).length), (.map 2)], .row false 76 2 (l75 v3), .map (mE e75 e2 v4)]) (args' := [(.ptr 0 0), (.sl (l2 v2))]) (res' := (aI v6)) (L'' := [.cells [(.gr 1 (l75 v3).length), (.map 2)], .row false 76 2 (l75 v3), .map (mE e75 e2 v4)]) [0, 1, 2] (F23_ok k v2 v3 v4 v6 h4) rfl (by decide) ⟨(by simp [AV.ren, AV.rens, AObj.ren, gname]), (by simp [AV.ren, AV.rens, AObj.ren, gname]), (by simp [AV.ren, AV.rens, AObj.ren, gname]), trivial⟩ (by simp [AV.low, AV.lows, AObj.low]) (by simp [AV.low, AV.lows, AObj.low]) (by kernel_rfl) (by simp [AV.ren, AV.rens, AObj.ren, gname, putBack]) (by simp [AV.ren, AV.rens, AObj.ren, gname, putBack]) (by simp [AV.ren, AV.rens, AObj.ren, gname, putBack]))) ?_
      refine ze hT 3 [6] [(6, (.bool (v6 == 0)))] ?_
      refine AE_seqN ?_
      refine AE_ret ?_
      refine zK [6] [(6, (.bool (v6 == 0)))] ?_
      simp only [Option.some.injEq] at h
      subst h
      exact zEnd
    · refine AW_reg ?_
      refine zm hT 5 [0, 1, 2, 11] [(0, (.ptr 0 0)), (1, (.sl (l2 v1))), (2, (.sl (l2 v2))), (11, (.bool (((l2 v1).length : Int) == ((l2 v2).length : Int))))] ?_
      refine zO (jQ hT h1) ?_
      refine zm hT 2 [0, 2, 12, 13, 14] [(0, (.ptr 0 0)), (2, (.sl (l2 v2))), (12, (.bool true)), (13, (.ptr 0 0)), (14, (.sl (l2 v1)))] ?_
      refine zO (jC Go.Proofs.Try.func23 (Fn_in (L := [.cells [(.gr 1 (l75 v3).length), (.map 2)], .row false 76 2 (l75 v3), .map (mE e75 e2 v4)]) (args' := [(.ptr 0 0), (.sl (l2 v1))]) (res' := (aI v5)) (L'' := [.cells [(.gr 1 (l75 v3).length), (.map 2)], .row false 76 2 (l75 v3), .map (mE e75 e2 v4)]) [0, 1, 2] (F23_ok k v1 v3 v4 v5 h2) rfl (by decide) ⟨(by simp [AV.ren, AV.rens, AObj.ren, gname]), (by simp [AV.ren, AV.rens, AObj.ren, gname]), (by simp [AV.ren, AV.rens, AObj.ren, gname]), trivial⟩ (by simp [AV.low, AV.lows, AObj.low]) (by simp [AV.low, AV.lows, AObj.low]) (by kernel_rfl) (by simp [AV.ren, AV.rens, AObj.ren, gname, putBack]) (by simp [AV.ren, AV.rens, AObj.ren, gname, putBack]) (by simp [AV.ren, AV.rens, AObj.ren, gname, putBack]))) ?_
      refine zm hT 2 [0, 2, 17] [(0, (.ptr 0 0)), (2, (.sl (l2 v2))), (17, (.bool (v5 == 0)))] ?_
      refine zO (jQ hT h3) ?_
      refine ze hT 6 [6] [(6, (.bool false))] ?_
      refine AE_seqN ?_
      refine AE_ret ?_
      refine zK [6] [(6, (.bool false))] ?_
      simp only [Option.some.injEq] at h
      subst h
      exact zEnd
  · refine AW_reg ?_
    refine zm hT 5 [0, 1, 2, 11] [(0, (.ptr 0 0)), (1, (.sl (l2 v1))), (2, (.sl (l2 v2))), (11, (.bool (((l2 v1).length : Int) == ((l2 v2).length : Int))))] ?_
    refine zO (jQ hT h1) ?_
    refine ze hT 12 [6] [(6, (.bool false))] ?_
    refine AE_seqN ?_
    refine AE_ret ?_
    refine zK [6] [(6, (.bool false))] ?_
    simp only [Option.some.injEq] at h
    subst h
    exact zEnd

def F83_l0 : Nat → (List Int) → Int → Int → Option (Int)
  | 0, _, _, _ => none
  | k1 + 1, v1, v2, v3 =>
    (bif (decide (v3 < ((l2 v1).length : Int))) then
      ((idx v1 v3).bind fun v4 =>
        (bif (v2 == v4) then
          some (v3)
        else
          F83_l0 k1 v1 v2 (IntKind.wrap .i64 (v3 + 1))))
    else
      some ((-1)))

def F83 (k : Nat) (v1 : (List Int)) (v2 : Int) : Option (Int) :=
  F83_l0 k v1 v2 0

theorem F83_ok (k : Nat) : ∀ (v1 : (List Int)) (v2 : Int) (r1 : Int), F83 k v1 v2 = some (r1) → Fn prog 83 [(.sl (l2 v1)), (aI v2)] [] (aI r1) [] := by
  intro v1 v2 r1 h
  rw [F83] at h
  refine Fn_bodyK hT Go.Proofs.Try.func83 (c := Go.Proofs.Try.f83.body.getD .skip) (by kernel_rfl) (by kernel_rfl) (by kernel_rfl) ?_
  refine zs hT [0, 1] [(0, (.sl (l2 v1))), (1, (aI v2))] ?_
  refine AW_seq ?_
  refine zs hT [0, 1, 7, 8] [(0, (.sl (l2 v1))), (1, (aI v2)), (7, (aI ((l2 v1).length : Int))), (8, (aI 0))] ?_
  refine AW_block ?_
  refine zKw [0, 1, 7, 8] [(0, (.sl (l2 v1))), (1, (aI v2)), (7, (aI ((l2 v1).length : Int))), (8, (aI 0))] ?_
  refine AW_loop (fun n env L => n ≤ k ∧ ∃ (v3 : Int), env = [(0, (.sl (l2 v1))), (1, (aI v2)), (7, (aI ((l2 v1).length : Int))), (8, (aI v3))] ∧ L = [] ∧ F83_l0 n v1 v2 v3 = some (r1)) k ⟨Nat.le_refl _, 0, rfl, rfl, h⟩ ?_
  rintro n _ _ ⟨hn, v3, rfl, rfl, h⟩
  cases n with
  | zero => rw [F83_l0] at h; cases h
  | succ k1 =>
    rw [F83_l0] at h
    refine zs hT [0, 1, 7, 8, 9] [(0, (.sl (l2 v1))), (1, (aI v2)), (7, (aI ((l2 v1).length : Int))), (8, (aI v3)), (9, (.bool (decide (v3 < ((l2 v1).length : Int)))))] ?_
    refine AW_seq ?_
    rcases bif_split h with ⟨h3, h⟩ | ⟨h3, h⟩
    · refine zT h3 ?_
      refine AE_skip ?_
      refine AE_seqN ?_
      refine AW_seq ?_
      refine AW_block ?_
      refine zs hT [0, 1, 5, 7, 8] [(0, (.sl (l2 v1))), (1, (aI v2)), (5, (aI v3)), (7, (aI ((l2 v1).length : Int))), (8, (aI v3))] ?_
      refine AW_seq ?_
      obtain ⟨v4, h4, h⟩ := bsm h
      try dsimp only at h
      refine AW_reg ?_
      refine zm hT 3 [0, 1, 5, 7, 8, 11, 12, 13] [(0, (.sl (l2 v1))), (1, (aI v2)), (5, (aI v3)), (7, (aI ((l2 v1).length : Int))), (8, (aI v3)), (11, (aI v2)), (12, (.sl (l2 v1))), (13, (aI v3))] ?_
      refine zO (jX hT 1 (i2 h4)) ?_
      refine ze hT 2 [0, 1, 5, 7, 8, 16] [(0, (.sl (l2 v1))), (1, (aI v2)), (5, (aI v3)), (7, (aI ((l2 v1).length : Int))), (8, (aI v3)), (16, (.bool (v2 == v4)))] ?_
      refine AE_seqN ?_
      rcases bif_split h with ⟨h5, h⟩ | ⟨h5, h⟩
      · refine zT h5 ?_
        refine zs hT [4] [(4, (aI v3))] ?_
        refine AE_ret ?_
        refine AE_blkR ?_
        refine AE_seqR ?_
        refine AE_seqR ?_
        refine AE_blkR ?_
        refine AE_seqR ?_
        refine zK [4] [(4, (aI v3))] ?_
        simp only [Option.some.injEq] at h
        subst h
        exact zEnd
      · refine zN h5 ?_
        refine AE_skip ?_
        refine AE_blkN ?_
        refine AE_seqN ?_
        refine zr hT [0, 1, 7, 8] [(0, (.sl (l2 v1))), (1, (aI v2)), (7, (aI ((l2 v1).length : Int))), (8, (aI (IntKind.wrap .i64 (v3 + 1))))] ?_
        refine zK [0, 1, 7, 8] [(0, (.sl (l2 v1))), (1, (aI v2)), (7, (aI ((l2 v1).length : Int))), (8, (aI (IntKind.wrap .i64 (v3 + 1))))] ?_
        exact AE_done ⟨k1, by omega, by omega, (IntKind.wrap .i64 (v3 + 1)), rfl, rfl, h⟩
    · refine zN h3 ?_
      refine AE_exit ?_
      refine AE_seqX ?_
      refine AE_seqX ?_
      refine AE_blkH ?_
      refine AE_seqN ?_
      refine zs hT [4] [(4, (aI (-1)))] ?_
      refine AE_ret ?_
      refine zK [4] [(4, (aI (-1)))] ?_
      simp only [Option.some.injEq] at h
      subst h
      exact zEnd

def F77 (k : Nat) (v1 : (List Int)) (v2 : Int) : Option (Bool) :=
  ((F83 k v1 v2).bind fun v3 =>
    some ((decide (v3 ≥ 0))))

theorem F77_ok (k : Nat) : ∀ (v1 : (List Int)) (v2 : Int) (r1 : Bool), F77 k v1 v2 = some (r1) → Fn prog 77 [(.sl (l2 v1)), (aI v2)] [] (.bool r1) [] := by
  intro v1 v2 r1 h
  rw [F77] at h
  refine Fn_bodyK hT Go.Proofs.Try.func77 (c := Go.Proofs.Try.f77.body.getD .skip) (by kernel_rfl) (by kernel_rfl) (by kernel_rfl) ?_
  refine zs hT [0, 1] [(0, (.sl (l2 v1))), (1, (aI v2))] ?_
  refine AW_seq ?_
  obtain ⟨v3, h1, h⟩ := bsm h
  try dsimp only at h
  refine AW_reg ?_
  refine zm hT 2 [5, 6] [(5, (.sl (l2 v1))), (6, (aI v2))] ?_
  refine zO (jP Go.Proofs.Try.func83 (F83_ok k v1 v2 v3 h1)) ?_
  refine ze hT 2 [4] [(4, (.bool (decide (v3 ≥ 0))))] ?_
  refine AE_seqN ?_
  refine AE_ret ?_
  refine zK [4] [(4, (.bool (decide (v3 ≥ 0))))] ?_
  simp only [Option.some.injEq] at h
  subst h
  exact zEnd

def F64 (k : Nat) (v1 : (List Int)) : Option ((List Int)) :=
  ((F77 k v1 (-1)).bind fun v2 =>
    (bif v2 then
      some ([])
    else
      some (v1)))

theorem F64_ok (k : Nat) : ∀ (v1 : (List Int)) (r1 : (List Int)), F64 k v1 = some (r1) → Fn prog 64 [(.sl (l2 v1))] [] (.sl (l2 r1)) [] := by
  intro v1 r1 h
  rw [F64] at h
  refine Fn_bodyK hT Go.Proofs.Try.func64 (c := Go.Proofs.Try.f64.body.getD .skip) (by kernel_rfl) (by kernel_rfl) (by kernel_rfl) ?_
  refine zs hT [0] [(0, (.sl (l2 v1)))] ?_
  refine AW_seq ?_
  refine AW_seq ?_
  obtain ⟨v2, h1, h⟩ := bsm h
  try dsimp only at h
  refine AW_reg ?_
  refine zm hT 1 [0, 3] [(0, (.sl (l2 v1))), (3, (.sl (l2 v1)))] ?_
  refine zO (jP Go.Proofs.Try.func77 (F77_ok k v1 (-1) v2 h1)) ?_
  refine zF ?_
  refine zK [0, 4] [(0, (.sl (l2 v1))), (4, (.bool v2))] ?_
  refine AE_seqN ?_
  rcases bif_split h with ⟨h2, h⟩ | ⟨h2, h⟩
  · refine zT h2 ?_
    refine zs hT [2] [(2, .nil)] ?_
    refine AE_ret ?_
    refine AE_seqR ?_
    refine zK [2] [(2, .nil)] ?_
    refine AE_weak (env' := [(2, (.sl (l2 [])))]) (Sub.cons (by have e : aget [(2, .nil)] 2 = .nil := (by kernel_rfl); rw [e]; exact Weak.nil) Sub.nil) ?_
    simp only [Option.some.injEq] at h
    subst h
    exact zEnd
  · refine zN h2 ?_
    refine AE_skip ?_
    refine AE_seqN ?_
    refine zs hT [2] [(2, (.sl (l2 v1)))] ?_
    refine AE_ret ?_
    refine zK [2] [(2, (.sl (l2 v1)))] ?_
    simp only [Option.some.injEq] at h
    subst h
    exact zEnd

def F47_l0 : Nat → (List Int) → (List Int) → Int → Int → (List T75) → (List (T75 × Int)) → (List Int) → Option ((List Int) × (List T75) × (List (T75 × Int)))
  | 0, _, _, _, _, _, _, _ => none
  | k3 + 1, v1, v2, v5, v7, v8, v9, v10 =>
    (bif (decide (v7 < ((l2 v1).length : Int))) then
      ((idx v1 v7).bind fun v11 =>
        ((idx v2 v7).bind fun v12 =>
          ((F48 k3 v11 v12 v8 v9 v5).bind fun ⟨v13, v14, v15⟩ =>
            ((appL 8 v10 [v13]).bind fun v16 =>
              F47_l0 k3 v1 v2 v5 (IntKind.wrap .i64 (v7 + 1)) v14 v15 v16))))
    else
      ((F64 k3 v10).bind fun v17 =>
        some (v17, v8, v9)))

def F47 (k : Nat) (v1 : (List Int)) (v2 : (List Int)) (v3 : (List T75)) (v4 : (List (T75 × Int))) (v5 : Int) : Option ((List Int) × (List T75) × (List (T75 × Int))) :=
  ((F53 k v1 v2 v3 v4).bind fun v6 =>
    (bif (!v6) then
      some ([], v3, v4)
    else
      F47_l0 k v1 v2 v5 0 v3 v4 []))

theorem F47_ok (k : Nat) : ∀ (v1 : (List Int)) (v2 : (List Int)) (v3 : (List T75)) (v4 : (List (T75 × Int))) (v5 : Int) (r1 : (List Int)) (r2 : (List T75)) (r3 : (List (T75 × Int))), F47 k v1 v2 v3 v4 v5 = some (r1, r2, r3) → Fn prog 47 [(.ptr 0 0), (.sl (l2 v1)), (.sl (l2 v2)), (.fn 48 [] [(.ptr 3 0), (.ptr 4 0)])] [.cells [(.gr 1 (l75 v3).length), (.map 2)], .row false 76 2 (l75 v3), .map (mE e75 e2 v4), .cells [(.ptr 0 0)], .cells [(aI v5)]] (.sl (l2 r1)) [.cells [(.gr 1 (l75 r2).length), (.map 2)], .row false 76 2 (l75 r2), .map (mE e75 e2 r3), .cells [(.ptr 0 0)], .cells [(aI v5)]] := by
  intro v1 v2 v3 v4 v5 r1 r2 r3 h
  rw [F47] at h
  refine Fn_bodyK hT Go.Proofs.Try.func47 (c := Go.Proofs.Try.f47.body.getD .skip) (by kernel_rfl) (by kernel_rfl) (by kernel_rfl) ?_
  refine zs hT [0, 1, 2, 3] [(0, (.ptr 0 0)), (1, (.sl (l2 v1))), (2, (.sl (l2 v2))), (3, (.fn 48 [] [(.ptr 3 0), (.ptr 4 0)]))] ?_
  refine AW_seq ?_
  refine AW_seq ?_
  obtain ⟨v6, h1, h⟩ := bsm h
  try dsimp only at h
  refine AW_reg ?_
  refine zm hT 3 [1, 2, 3, 11, 12, 13] [(1, (.sl (l2 v1))), (2, (.sl (l2 v2))), (3, (.fn 48 [] [(.ptr 3 0), (.ptr 4 0)])), (11, (.ptr 0 0)), (12, (.sl (l2 v1))), (13, (.sl (l2 v2)))] ?_
  refine zO (jC Go.Proofs.Try.func53 (Fn_in (L := [.cells [(.gr 1 (l75 v3).length), (.map 2)], .row false 76 2 (l75 v3), .map (mE e75 e2 v4), .cells [(.ptr 0 0)], .cells [(aI v5)]]) (args' := [(.ptr 0 0), (.sl (l2 v1)), (.sl (l2 v2))]) (res' := (.bool v6)) (L'' := [.cells [(.gr 1 (l75 v3).length), (.map 2)], .row false 76 2 (l75 v3), .map (mE e75 e2 v4), .cells [(.ptr 0 0)], .cells [(aI v5)]]) [0, 1, 2] (F53_ok k v1 v2 v3 v4 v6 h1) rfl (by decide) ⟨(by simp [AV.ren, AV.rens, AObj.ren, gname]), (by simp [AV.ren, AV.rens, AObj.ren, gname]), (by simp [AV.ren, AV.rens, AObj.ren, gname]), trivial⟩ (by simp [AV.low, AV.lows, AObj.low]) (by simp [AV.low, AV.lows, AObj.low]) (by kernel_rfl) (by simp [AV.ren, AV.rens, AObj.ren, gname, putBack]) (by simp [AV.ren, AV.rens, AObj.ren, gname, putBack]) (by simp [AV.ren, AV.rens, AObj.ren, gname, putBack]))) ?_
  refine ze hT 1 [1, 2, 3, 15] [(1, (.sl (l2 v1))), (2, (.sl (l2 v2))), (3, (.fn 48 [] [(.ptr 3 0), (.ptr 4 0)])), (15, (.bool (!v6)))] ?_
  refine AE_seqN ?_
  rcases bif_split h with ⟨h2, h⟩ | ⟨h2, h⟩
  · refine zT h2 ?_
    refine zs hT [8] [(8, .nil)] ?_
    refine AE_ret ?_
    refine AE_seqR ?_
    refine zK [8] [(8, .nil)] ?_
    refine AE_weak (env' := [(8, (.sl (l2 [])))]) (Sub.cons (by have e : aget [(8, .nil)] 8 = .nil := (by kernel_rfl); rw [e]; exact Weak.nil) Sub.nil) ?_
    simp only [Option.some.injEq, Prod.mk.injEq] at h
    obtain ⟨rfl, rfl, rfl⟩ := h
    exact zEnd
  · refine zN h2 ?_
    refine AE_skip ?_
    refine AE_seqN ?_
    refine zs hT [1, 2, 3, 9] [(1, (.sl (l2 v1))), (2, (.sl (l2 v2))), (3, (.fn 48 [] [(.ptr 3 0), (.ptr 4 0)])), (9, .nil)] ?_
    refine AW_seq ?_
    refine zs hT [1, 2, 3, 9, 17, 18] [(1, (.sl (l2 v1))), (2, (.sl (l2 v2))), (3, (.fn 48 [] [(.ptr 3 0), (.ptr 4 0)])), (9, .nil), (17, (aI ((l2 v1).length : Int))), (18, (aI 0))] ?_
    refine AW_block ?_
    refine zKw [1, 2, 3, 9, 17, 18] [(1, (.sl (l2 v1))), (2, (.sl (l2 v2))), (3, (.fn 48 [] [(.ptr 3 0), (.ptr 4 0)])), (9, .nil), (17, (aI ((l2 v1).length : Int))), (18, (aI 0))] ?_
    refine AW_gh (Gh.row false 3 1 (xs := l2 []) rfl (by kernel_rfl) (L' := [.cells [(.gr 1 (l75 v3).length), (.map 2)], .row false 76 2 (l75 v3), .map (mE e75 e2 v4), .cells [(.ptr 0 0)], .cells [(aI v5)], .row false 3 1 (l2 [])]) (by kernel_rfl)) ?_
    refine AW_weak (env' := [(1, (.sl (l2 v1))), (2, (.sl (l2 v2))), (3, (.fn 48 [] [(.ptr 3 0), (.ptr 4 0)])), (9, (.gr 5 (l2 []).length)), (17, (aI ((l2 v1).length : Int))), (18, (aI 0))]) (Sub.keep (by kernel_rfl) (Sub.keep (by kernel_rfl) (Sub.keep (by kernel_rfl) (Sub.cons (by have e : aget [(1, (.sl (l2 v1))), (2, (.sl (l2 v2))), (3, (.fn 48 [] [(.ptr 3 0), (.ptr 4 0)])), (9, .nil), (17, (aI ((l2 v1).length : Int))), (18, (aI 0))] 9 = .nil := (by kernel_rfl); rw [e]; exact (Weak.void (mu := false) (e := 3) (k := 1) (xs := l2 []) (by kernel_rfl) rfl rfl)) (Sub.keep (by kernel_rfl) (Sub.keep (by kernel_rfl) Sub.nil)))))) ?_
    refine AW_loop (fun n env L => n ≤ k ∧ ∃ (v7 : Int) (v8 : (List T75)) (v9 : (List (T75 × Int))) (v10 : (List Int)), env = [(1, (.sl (l2 v1))), (2, (.sl (l2 v2))), (3, (.fn 48 [] [(.ptr 3 0), (.ptr 4 0)])), (9, (.gr 5 (l2 v10).length)), (17, (aI ((l2 v1).length : Int))), (18, (aI v7))] ∧ L = [.cells [(.gr 1 (l75 v8).length), (.map 2)], .row false 76 2 (l75 v8), .map (mE e75 e2 v9), .cells [(.ptr 0 0)], .cells [(aI v5)], .row false 3 1 (l2 v10)] ∧ F47_l0 n v1 v2 v5 v7 v8 v9 v10 = some (r1, r2, r3)) k ⟨Nat.le_refl _, 0, v3, v4, [], rfl, rfl, h⟩ ?_
    rintro n _ _ ⟨hn, v7, v8, v9, v10, rfl, rfl, h⟩
    cases n with
    | zero => rw [F47_l0] at h; cases h
    | succ k3 =>
      rw [F47_l0] at h
      refine zs hT [1, 2, 3, 9, 17, 18, 19] [(1, (.sl (l2 v1))), (2, (.sl (l2 v2))), (3, (.fn 48 [] [(.ptr 3 0), (.ptr 4 0)])), (9, (.gr 5 (l2 v10).length)), (17, (aI ((l2 v1).length : Int))), (18, (aI v7)), (19, (.bool (decide (v7 < ((l2 v1).length : Int)))))] ?_
      refine AW_seq ?_
      rcases bif_split h with ⟨h5, h⟩ | ⟨h5, h⟩
      · refine zT h5 ?_
        refine AE_skip ?_
        refine AE_seqN ?_
        refine AW_seq ?_
        refine AW_block ?_
        refine zs hT [1, 2, 3, 9, 10, 17, 18] [(1, (.sl (l2 v1))), (2, (.sl (l2 v2))), (3, (.fn 48 [] [(.ptr 3 0), (.ptr 4 0)])), (9, (.gr 5 (l2 v10).length)), (10, (aI v7)), (17, (aI ((l2 v1).length : Int))), (18, (aI v7))] ?_
        obtain ⟨v11, h6, h⟩ := bsm h
        try dsimp only at h
        obtain ⟨v12, h7, h⟩ := bsm h
        try dsimp only at h
        obtain ⟨⟨v13, v14, v15⟩, h8, h⟩ := bsm h
        try dsimp only at h
        obtain ⟨v16, h9, h⟩ := bsm h
        try dsimp only at h
        refine AW_drx hmix [⟨(.gr 5 (l2 v10).length), [], 0, 1, false⟩, ⟨(.fn 48 [] [(.ptr 3 0), (.ptr 4 0)]), [], 0, 0, false⟩, ⟨(.sl (l2 v1)), [], 0, 0, false⟩, ⟨(aI v7), [], 0, 0, false⟩, ⟨(.rp [(aI v11)]), [2, 3], 0, 0, false⟩, ⟨(aI v11), [2, 3, 4], 0, 0, false⟩, ⟨(.sl (l2 v2)), [], 0, 0, false⟩, ⟨(aI v7), [], 0, 0, false⟩, ⟨(.rp [(aI v12)]), [6, 7], 0, 0, false⟩, ⟨(aI v12), [6, 7, 8], 0, 0, false⟩, ⟨(aI v13), [1, 2, 3, 4, 5, 6, 7, 8, 9], 0, 0, true⟩, ⟨(.sl (l2 [v13])), [1, 2, 3, 4, 5, 6, 7, 8, 9, 10], 1, 1, false⟩, ⟨(.gr 5 (l2 v16).length), [0, 1, 2, 3, 4, 5, 6, 7, 8, 9, 10, 11], 1, 1, true⟩, ⟨(.gr 5 (l2 v16).length), [0, 1, 2, 3, 4, 5, 6, 7, 8, 9, 10, 11, 12], 2, 2, false⟩] [10, 12] (fun p => match p with | 0 => [.cells [(.gr 1 (l75 v8).length), (.map 2)], .row false 76 2 (l75 v8), .map (mE e75 e2 v9), .cells [(.ptr 0 0)], .cells [(aI v5)], .row false 3 1 (l2 v10)] | 1 => [.cells [(.gr 1 (l75 v14).length), (.map 2)], .row false 76 2 (l75 v14), .map (mE e75 e2 v15), .cells [(.ptr 0 0)], .cells [(aI v5)], .row false 3 1 (l2 v10)] | _ => [.cells [(.gr 1 (l75 v14).length), (.map 2)], .row false 76 2 (l75 v14), .map (mE e75 e2 v15), .cells [(.ptr 0 0)], .cells [(aI v5)], .row false 3 1 (l2 v16)]) [1, 2, 3, 9, 17, 18] [(1, (.sl (l2 v1))), (2, (.sl (l2 v2))), (3, (.fn 48 [] [(.ptr 3 0), (.ptr 4 0)])), (9, (.gr 5 (l2 v16).length)), (17, (aI ((l2 v1).length : Int))), (18, (aI v7))] [.cells [(.gr 1 (l75 v14).length), (.map 2)], .row false 76 2 (l75 v14), .map (mE e75 e2 v15), .cells [(.ptr 0 0)], .cells [(aI v5)], .row false 3 1 (l2 v16)] (by kernel_rfl) rfl rfl (by kernel_rfl) ?_ ?_
        · refine SA_plain hT 4 (by kernel_rfl) ?_
          refine SA_tell (v := (.rp [(aI v11)])) (by kernel_rfl) (by kernel_rfl) (by kernel_rfl) (fun L => (jX hT 1 (i2 h6))) ?_
          refine SA_plain hT 3 (by kernel_rfl) ?_
          refine SA_tell (v := (.rp [(aI v12)])) (by kernel_rfl) (by kernel_rfl) (by kernel_rfl) (fun L => (jX hT 1 (i2 h7))) ?_
          refine SA_plain hT 1 (by kernel_rfl) ?_
          refine SA_at 0 (v := (aI v13)) (Lp := [.cells [(.gr 1 (l75 v8).length), (.map 2)], .row false 76 2 (l75 v8), .map (mE e75 e2 v9), .cells [(.ptr 0 0)], .cells [(aI v5)], .row false 3 1 (l2 v10)]) (Lq := [.cells [(.gr 1 (l75 v14).length), (.map 2)], .row false 76 2 (l75 v14), .map (mE e75 e2 v15), .cells [(.ptr 0 0)], .cells [(aI v5)], .row false 3 1 (l2 v10)]) (by kernel_rfl) (by kernel_rfl) (by kernel_rfl) (by kernel_rfl) (by kernel_rfl) (by kernel_rfl) (jC Go.Proofs.Try.func48 (Fn_in (L := [.cells [(.gr 1 (l75 v8).length), (.map 2)], .row false 76 2 (l75 v8), .map (mE e75 e2 v9), .cells [(.ptr 0 0)], .cells [(aI v5)], .row false 3 1 (l2 v10)]) (args' := [(aI v11), (aI v12), (.ptr 3 0), (.ptr 4 0)]) (res' := (aI v13)) (L'' := [.cells [(.gr 1 (l75 v14).length), (.map 2)], .row false 76 2 (l75 v14), .map (mE e75 e2 v15), .cells [(.ptr 0 0)], .cells [(aI v5)], .row false 3 1 (l2 v10)]) [3, 0, 1, 2, 4] (F48_ok k3 v11 v12 v8 v9 v5 v13 v14 v15 h8) rfl (by decide) ⟨(by simp [AV.ren, AV.rens, AObj.ren, gname]), (by simp [AV.ren, AV.rens, AObj.ren, gname]), (by simp [AV.ren, AV.rens, AObj.ren, gname]), (by simp [AV.ren, AV.rens, AObj.ren, gname]), (by simp [AV.ren, AV.rens, AObj.ren, gname]), trivial⟩ (by simp [AV.low, AV.lows, AObj.low]) (by simp [AV.low, AV.lows, AObj.low]) (by kernel_rfl) (by simp [AV.ren, AV.rens, AObj.ren, gname, putBack]) (by simp [AV.ren, AV.rens, AObj.ren, gname, putBack]) (by simp [AV.ren, AV.rens, AObj.ren, gname, putBack]))) ?_
          refine SA_at 1 (v := (.sl (l2 [v13]))) (Lp := [.cells [(.gr 1 (l75 v14).length), (.map 2)], .row false 76 2 (l75 v14), .map (mE e75 e2 v15), .cells [(.ptr 0 0)], .cells [(aI v5)], .row false 3 1 (l2 v10)]) (Lq := [.cells [(.gr 1 (l75 v14).length), (.map 2)], .row false 76 2 (l75 v14), .map (mE e75 e2 v15), .cells [(.ptr 0 0)], .cells [(aI v5)], .row false 3 1 (l2 v10)]) (by kernel_rfl) (by kernel_rfl) (by kernel_rfl) (by kernel_rfl) (by kernel_rfl) (by kernel_rfl) (jL hT 3 1 [(aI v13)] 6) ?_
          refine SA_at 1 (v := (.gr 5 (l2 v16).length)) (Lp := [.cells [(.gr 1 (l75 v14).length), (.map 2)], .row false 76 2 (l75 v14), .map (mE e75 e2 v15), .cells [(.ptr 0 0)], .cells [(aI v5)], .row false 3 1 (l2 v10)]) (Lq := [.cells [(.gr 1 (l75 v14).length), (.map 2)], .row false 76 2 (l75 v14), .map (mE e75 e2 v15), .cells [(.ptr 0 0)], .cells [(aI v5)], .row false 3 1 (l2 v16)]) (by kernel_rfl) (by kernel_rfl) (by kernel_rfl) (by kernel_rfl) (by kernel_rfl) (by kernel_rfl) (jA hT l2_map e2_k e2_one [.cells [(.gr 1 (l75 v14).length), (.map 2)], .row false 76 2 (l75 v14), .map (mE e75 e2 v15), .cells [(.ptr 0 0)], .cells [(aI v5)], .row false 3 1 (l2 v16)] false 3 (.gr 5 (l2 v10).length) (.sl (l2 [v13])) 5 (l2 v10).length Weak.refl rfl Weak.refl h9) ?_
          refine SA_plain hT 1 (by kernel_rfl) ?_
          exact SA_end (by kernel_rfl)
        refine AE_blkN ?_
        refine AE_seqN ?_
        refine zr hT [1, 2, 3, 9, 17, 18] [(1, (.sl (l2 v1))), (2, (.sl (l2 v2))), (3, (.fn 48 [] [(.ptr 3 0), (.ptr 4 0)])), (9, (.gr 5 (l2 v16).length)), (17, (aI ((l2 v1).length : Int))), (18, (aI (IntKind.wrap .i64 (v7 + 1))))] ?_
        refine zK [1, 2, 3, 9, 17, 18] [(1, (.sl (l2 v1))), (2, (.sl (l2 v2))), (3, (.fn 48 [] [(.ptr 3 0), (.ptr 4 0)])), (9, (.gr 5 (l2 v16).length)), (17, (aI ((l2 v1).length : Int))), (18, (aI (IntKind.wrap .i64 (v7 + 1))))] ?_
        exact AE_done ⟨k3, by omega, by omega, (IntKind.wrap .i64 (v7 + 1)), v14, v15, v16, rfl, rfl, h⟩
      · refine zN h5 ?_
        refine AE_exit ?_
        refine AE_seqX ?_
        refine AE_seqX ?_
        refine AE_blkH ?_
        refine AE_seqN ?_
        refine AW_seq ?_
        obtain ⟨v17, h10, h⟩ := bsm h
        try dsimp only at h
        refine AW_reg ?_
        refine zm hT 1 [35] [(35, (.gr 5 (l2 v10).length))] ?_
        refine zO (jC Go.Proofs.Try.func64 (Fn_args (args := [(.gr 5 (l2 v10).length)]) (args' := [(.sl (l2 v10))]) (fP (F64_ok k3 v10 v17 h10)) ⟨(Weak.view (e := 3) (k := 1) (xs := l2 v10) (by kernel_rfl) rfl), trivial⟩)) ?_
        refine ze hT 1 [8] [(8, (.sl (l2 v17)))] ?_
        refine AE_seqN ?_
        refine AE_ret ?_
        refine zK [8] [(8, (.sl (l2 v17)))] ?_
        simp only [Option.some.injEq, Prod.mk.injEq] at h
        obtain ⟨rfl, rfl, rfl⟩ := h
        exact zEnd

def F11 (k : Nat) (v1 : Int) (v2 : (List Int)) (v3 : (List Int)) (v4 : (List T75)) (v5 : (List (T75 × Int))) : Option ((List Int) × (List T75) × (List (T75 × Int))) :=
  ((F46 k v1 v4 v5).bind fun v6 =>
    (bif (!v6) then
      some ([], v4, v5)
    else
      ((F47 k v2 v3 v4 v5 v1).bind fun ⟨v7, v8, v9⟩ =>
        some (v7, v8, v9))))

theorem F11_ok (k : Nat) : ∀ (v1 : Int) (v2 : (List Int)) (v3 : (List Int)) (v4 : (List T75)) (v5 : (List (T75 × Int))) (r1 : (List Int)) (r2 : (List T75)) (r3 : (List (T75 × Int))), F11 k v1 v2 v3 v4 v5 = some (r1, r2, r3) → Fn prog 11 [(.ptr 0 0), (aI v1), (.sl (l2 v2)), (.sl (l2 v3))] [.cells [(.gr 1 (l75 v4).length), (.map 2)], .row false 76 2 (l75 v4), .map (mE e75 e2 v5)] (.sl (l2 r1)) [.cells [(.gr 1 (l75 r2).length), (.map 2)], .row false 76 2 (l75 r2), .map (mE e75 e2 r3)] := by
  intro v1 v2 v3 v4 v5 r1 r2 r3 h
  rw [F11] at h
  refine Fn_bodyK hT Go.Proofs.Try.func11 (c := Go.Proofs.Try.f11.body.getD .skip) (by kernel_rfl) (by kernel_rfl) (by kernel_rfl) ?_
  refine zS hT [2, 3, 4, 5] [(2, (.sl (l2 v2))), (3, (.sl (l2 v3))), (4, (.ptr 3 0)), (5, (.ptr 4 0))] [.cells [(.gr 1 (l75 v4).length), (.map 2)], .row false 76 2 (l75 v4), .map (mE e75 e2 v5), .cells [(.ptr 0 0)], .cells [(aI v1)]] ?_
  refine AW_seq ?_
  refine AW_seq ?_
  obtain ⟨v6, h1, h⟩ := bsm h
  try dsimp only at h
  refine AW_reg ?_
  refine zm hT 2 [2, 3, 4, 5, 9, 10] [(2, (.sl (l2 v2))), (3, (.sl (l2 v3))), (4, (.ptr 3 0)), (5, (.ptr 4 0)), (9, (.ptr 0 0)), (10, (aI v1))] ?_
  refine zO (jC Go.Proofs.Try.func46 (Fn_in (L := [.cells [(.gr 1 (l75 v4).length), (.map 2)], .row false 76 2 (l75 v4), .map (mE e75 e2 v5), .cells [(.ptr 0 0)], .cells [(aI v1)]]) (args' := [(.ptr 0 0), (aI v1)]) (res' := (.bool v6)) (L'' := [.cells [(.gr 1 (l75 v4).length), (.map 2)], .row false 76 2 (l75 v4), .map (mE e75 e2 v5), .cells [(.ptr 0 0)], .cells [(aI v1)]]) [0, 1, 2] (F46_ok k v1 v4 v5 v6 h1) rfl (by decide) ⟨(by simp [AV.ren, AV.rens, AObj.ren, gname]), (by simp [AV.ren, AV.rens, AObj.ren, gname]), (by simp [AV.ren, AV.rens, AObj.ren, gname]), trivial⟩ (by simp [AV.low, AV.lows, AObj.low]) (by simp [AV.low, AV.lows, AObj.low]) (by kernel_rfl) (by simp [AV.ren, AV.rens, AObj.ren, gname, putBack]) (by simp [AV.ren, AV.rens, AObj.ren, gname, putBack]) (by simp [AV.ren, AV.rens, AObj.ren, gname, putBack]))) ?_
  refine ze hT 1 [2, 3, 4, 5, 12] [(2, (.sl (l2 v2))), (3, (.sl (l2 v3))), (4, (.ptr 3 0)), (5, (.ptr 4 0)), (12, (.bool (!v6)))] ?_
  refine AE_seqN ?_
  rcases bif_split h with ⟨h2, h⟩ | ⟨h2, h⟩
  · refine zT h2 ?_
    refine zs hT [8] [(8, .nil)] ?_
    refine AE_ret ?_
    refine AE_seqR ?_
    refine zK [8] [(8, .nil)] ?_
    refine AE_weak (env' := [(8, (.sl (l2 [])))]) (Sub.cons (by have e : aget [(8, .nil)] 8 = .nil := (by kernel_rfl); rw [e]; exact Weak.nil) Sub.nil) ?_
    simp only [Option.some.injEq, Prod.mk.injEq] at h
    obtain ⟨rfl, rfl, rfl⟩ := h
    exact zEnd
  · refine zN h2 ?_
    refine AE_skip ?_
    refine AE_seqN ?_
    refine AW_seq ?_
    obtain ⟨⟨v7, v8, v9⟩, h3, h⟩ := bsm h
    try dsimp only at h
    refine AW_reg ?_
    refine zm hT 4 [13, 14, 15, 16] [(13, (.ptr 0 0)), (14, (.sl (l2 v2))), (15, (.sl (l2 v3))), (16, (.fn 48 [] [(.ptr 3 0), (.ptr 4 0)]))] ?_
    refine zO (jC Go.Proofs.Try.func47 (Fn_in (L := [.cells [(.gr 1 (l75 v4).length), (.map 2)], .row false 76 2 (l75 v4), .map (mE e75 e2 v5), .cells [(.ptr 0 0)], .cells [(aI v1)]]) (args' := [(.ptr 0 0), (.sl (l2 v2)), (.sl (l2 v3)), (.fn 48 [] [(.ptr 3 0), (.ptr 4 0)])]) (res' := (.sl (l2 v7))) (L'' := [.cells [(.gr 1 (l75 v8).length), (.map 2)], .row false 76 2 (l75 v8), .map (mE e75 e2 v9), .cells [(.ptr 0 0)], .cells [(aI v1)]]) [0, 1, 2, 3, 4] (F47_ok k v2 v3 v4 v5 v1 v7 v8 v9 h3) rfl (by decide) ⟨(by simp [AV.ren, AV.rens, AObj.ren, gname]), (by simp [AV.ren, AV.rens, AObj.ren, gname]), (by simp [AV.ren, AV.rens, AObj.ren, gname]), (by simp [AV.ren, AV.rens, AObj.ren, gname]), (by simp [AV.ren, AV.rens, AObj.ren, gname]), trivial⟩ (by simp [AV.low, AV.lows, AObj.low]) (by simp [AV.low, AV.lows, AObj.low]) (by kernel_rfl) (by simp [AV.ren, AV.rens, AObj.ren, gname, putBack]) (by simp [AV.ren, AV.rens, AObj.ren, gname, putBack]) (by simp [AV.ren, AV.rens, AObj.ren, gname, putBack]))) ?_
    refine ze hT 1 [8] [(8, (.sl (l2 v7)))] ?_
    refine AE_seqN ?_
    refine AE_ret ?_
    refine zK [8] [(8, (.sl (l2 v7)))] ?_
    simp only [Option.some.injEq, Prod.mk.injEq] at h
    obtain ⟨rfl, rfl, rfl⟩ := h
    exact zEnd

def F74 (k : Nat) (v1 : Int) (v2 : Int) (v3 : (List T75)) (v4 : (List (T75 × Int))) : Option (Int × (List T75) × (List (T75 × Int))) :=
  ((F73 k v2).bind fun v5 =>
    ((F65 k v1 v5 v3 v4).bind fun ⟨v6, v7, v8⟩ =>
      ((F73 k v1).bind fun v9 =>
        ((F65 k v9 v2 v7 v8).bind fun ⟨v10, v11, v12⟩ =>
          ((F72 k v6 v10 v11 v12).bind fun ⟨v13, v14, v15⟩ =>
            some (v13, v14, v15))))))

theorem F74_ok (k : Nat) : ∀ (v1 : Int) (v2 : Int) (v3 : (List T75)) (v4 : (List (T75 × Int))) (r1 : Int) (r2 : (List T75)) (r3 : (List (T75 × Int))), F74 k v1 v2 v3 v4 = some (r1, r2, r3) → Fn prog 74 [(.ptr 0 0), (aI v1), (aI v2)] [.cells [(.gr 1 (l75 v3).length), (.map 2)], .row false 76 2 (l75 v3), .map (mE e75 e2 v4)] (aI r1) [.cells [(.gr 1 (l75 r2).length), (.map 2)], .row false 76 2 (l75 r2), .map (mE e75 e2 r3)] := by
  intro v1 v2 v3 v4 r1 r2 r3 h
  rw [F74] at h
  refine Fn_bodyK hT Go.Proofs.Try.func74 (c := Go.Proofs.Try.f74.body.getD .skip) (by kernel_rfl) (by kernel_rfl) (by kernel_rfl) ?_
  refine zs hT [0, 1, 2] [(0, (.ptr 0 0)), (1, (aI v1)), (2, (aI v2))] ?_
  refine AW_seq ?_
  obtain ⟨v5, h1, h⟩ := bsm h
  try dsimp only at h
  obtain ⟨⟨v6, v7, v8⟩, h2, h⟩ := bsm h
  try dsimp only at h
  refine AW_reg ?_
  refine zm hT 3 [0, 1, 2, 8, 9, 10] [(0, (.ptr 0 0)), (1, (aI v1)), (2, (aI v2)), (8, (.ptr 0 0)), (9, (aI v1)), (10, (aI v2))] ?_
  refine zO (jP Go.Proofs.Try.func73 (F73_ok k v2 v5 h1)) ?_
  refine zO (jC Go.Proofs.Try.func65 (Fn_in (L := [.cells [(.gr 1 (l75 v3).length), (.map 2)], .row false 76 2 (l75 v3), .map (mE e75 e2 v4)]) (args' := [(.ptr 0 0), (aI v1), (aI v5)]) (res' := (aI v6)) (L'' := [.cells [(.gr 1 (l75 v7).length), (.map 2)], .row false 76 2 (l75 v7), .map (mE e75 e2 v8)]) [0, 1, 2] (F65_ok k v1 v5 v3 v4 v6 v7 v8 h2) rfl (by decide) ⟨(by simp [AV.ren, AV.rens, AObj.ren, gname]), (by simp [AV.ren, AV.rens, AObj.ren, gname]), (by simp [AV.ren, AV.rens, AObj.ren, gname]), trivial⟩ (by simp [AV.low, AV.lows, AObj.low]) (by simp [AV.low, AV.lows, AObj.low]) (by kernel_rfl) (by simp [AV.ren, AV.rens, AObj.ren, gname, putBack]) (by simp [AV.ren, AV.rens, AObj.ren, gname, putBack]) (by simp [AV.ren, AV.rens, AObj.ren, gname, putBack]))) ?_
  refine ze hT 1 [0, 1, 2, 7] [(0, (.ptr 0 0)), (1, (aI v1)), (2, (aI v2)), (7, (aI v6))] ?_
  refine AE_seqN ?_
  refine AW_seq ?_
  obtain ⟨v9, h3, h⟩ := bsm h
  try dsimp only at h
  obtain ⟨⟨v10, v11, v12⟩, h4, h⟩ := bsm h
  try dsimp only at h
  obtain ⟨⟨v13, v14, v15⟩, h5, h⟩ := bsm h
  try dsimp only at h
  refine AW_reg ?_
  refine zm hT 4 [2, 13, 14, 15, 16] [(2, (aI v2)), (13, (.ptr 0 0)), (14, (aI v6)), (15, (.ptr 0 0)), (16, (aI v1))] ?_
  refine zO (jP Go.Proofs.Try.func73 (F73_ok k v1 v9 h3)) ?_
  refine zm hT 1 [13, 14, 15, 17, 18] [(13, (.ptr 0 0)), (14, (aI v6)), (15, (.ptr 0 0)), (17, (aI v9)), (18, (aI v2))] ?_
  refine zO (jC Go.Proofs.Try.func65 (Fn_in (L := [.cells [(.gr 1 (l75 v7).length), (.map 2)], .row false 76 2 (l75 v7), .map (mE e75 e2 v8)]) (args' := [(.ptr 0 0), (aI v9), (aI v2)]) (res' := (aI v10)) (L'' := [.cells [(.gr 1 (l75 v11).length), (.map 2)], .row false 76 2 (l75 v11), .map (mE e75 e2 v12)]) [0, 1, 2] (F65_ok k v9 v2 v7 v8 v10 v11 v12 h4) rfl (by decide) ⟨(by simp [AV.ren, AV.rens, AObj.ren, gname]), (by simp [AV.ren, AV.rens, AObj.ren, gname]), (by simp [AV.ren, AV.rens, AObj.ren, gname]), trivial⟩ (by simp [AV.low, AV.lows, AObj.low]) (by simp [AV.low, AV.lows, AObj.low]) (by kernel_rfl) (by simp [AV.ren, AV.rens, AObj.ren, gname, putBack]) (by simp [AV.ren, AV.rens, AObj.ren, gname, putBack]) (by simp [AV.ren, AV.rens, AObj.ren, gname, putBack]))) ?_
  refine zO (jC Go.Proofs.Try.func72 (Fn_in (L := [.cells [(.gr 1 (l75 v11).length), (.map 2)], .row false 76 2 (l75 v11), .map (mE e75 e2 v12)]) (args' := [(.ptr 0 0), (aI v6), (aI v10)]) (res' := (aI v13)) (L'' := [.cells [(.gr 1 (l75 v14).length), (.map 2)], .row false 76 2 (l75 v14), .map (mE e75 e2 v15)]) [0, 1, 2] (F72_ok k v6 v10 v11 v12 v13 v14 v15 h5) rfl (by decide) ⟨(by simp [AV.ren, AV.rens, AObj.ren, gname]), (by simp [AV.ren, AV.rens, AObj.ren, gname]), (by simp [AV.ren, AV.rens, AObj.ren, gname]), trivial⟩ (by simp [AV.low, AV.lows, AObj.low]) (by simp [AV.low, AV.lows, AObj.low]) (by kernel_rfl) (by simp [AV.ren, AV.rens, AObj.ren, gname, putBack]) (by simp [AV.ren, AV.rens, AObj.ren, gname, putBack]) (by simp [AV.ren, AV.rens, AObj.ren, gname, putBack]))) ?_
  refine ze hT 1 [6] [(6, (aI v13))] ?_
  refine AE_seqN ?_
  refine AE_ret ?_
  refine zK [6] [(6, (aI v13))] ?_
  simp only [Option.some.injEq, Prod.mk.injEq] at h
  obtain ⟨rfl, rfl, rfl⟩ := h
  exact zEnd

def F47_1_l0 : Nat → (List Int) → (List Int) → Int → (List T75) → (List (T75 × Int)) → (List Int) → Option ((List Int) × (List T75) × (List (T75 × Int)))
  | 0, _, _, _, _, _, _ => none
  | k3 + 1, v1, v2, v6, v7, v8, v9 =>
    (bif (decide (v6 < ((l2 v1).length : Int))) then
      ((idx v1 v6).bind fun v10 =>
        ((idx v2 v6).bind fun v11 =>
          ((F74 k3 v10 v11 v7 v8).bind fun ⟨v12, v13, v14⟩ =>
            ((appL 8 v9 [v12]).bind fun v15 =>
              F47_1_l0 k3 v1 v2 (IntKind.wrap .i64 (v6 + 1)) v13 v14 v15))))
    else
      ((F64 k3 v9).bind fun v16 =>
        some (v16, v7, v8)))

def F47_1 (k : Nat) (v1 : (List Int)) (v2 : (List Int)) (v3 : (List T75)) (v4 : (List (T75 × Int))) : Option ((List Int) × (List T75) × (List (T75 × Int))) :=
  ((F53 k v1 v2 v3 v4).bind fun v5 =>
    (bif (!v5) then
      some ([], v3, v4)
    else
      F47_1_l0 k v1 v2 0 v3 v4 []))

theorem F47_1_ok (k : Nat) : ∀ (v1 : (List Int)) (v2 : (List Int)) (v3 : (List T75)) (v4 : (List (T75 × Int))) (r1 : (List Int)) (r2 : (List T75)) (r3 : (List (T75 × Int))), F47_1 k v1 v2 v3 v4 = some (r1, r2, r3) → Fn prog 47 [(.ptr 0 0), (.sl (l2 v1)), (.sl (l2 v2)), (.fn 74 [(.ptr 0 0)] [])] [.cells [(.gr 1 (l75 v3).length), (.map 2)], .row false 76 2 (l75 v3), .map (mE e75 e2 v4)] (.sl (l2 r1)) [.cells [(.gr 1 (l75 r2).length), (.map 2)], .row false 76 2 (l75 r2), .map (mE e75 e2 r3)] := by
  intro v1 v2 v3 v4 r1 r2 r3 h
  rw [F47_1] at h
  refine Fn_bodyK hT Go.Proofs.Try.func47 (c := Go.Proofs.Try.f47.body.getD .skip) (by kernel_rfl) (by kernel_rfl) (by kernel_rfl) ?_
  refine zs hT [0, 1, 2, 3] [(0, (.ptr 0 0)), (1, (.sl (l2 v1))), (2, (.sl (l2 v2))), (3, (.fn 74 [(.ptr 0 0)] []))] ?_
  refine AW_seq ?_
  refine AW_seq ?_
  obtain ⟨v5, h1, h⟩ := bsm h
  try dsimp only at h
  refine AW_reg ?_
  refine zm hT 3 [1, 2, 3, 11, 12, 13] [(1, (.sl (l2 v1))), (2, (.sl (l2 v2))), (3, (.fn 74 [(.ptr 0 0)] [])), (11, (.ptr 0 0)), (12, (.sl (l2 v1))), (13, (.sl (l2 v2)))] ?_
  refine zO (jC Go.Proofs.Try.func53 (Fn_in (L := [.cells [(.gr 1 (l75 v3).length), (.map 2)], .row false 76 2 (l75 v3), .map (mE e75 e2 v4)]) (args' := [(.ptr 0 0), (.sl (l2 v1)), (.sl (l2 v2))]) (res' := (.bool v5)) (L'' := [.cells [(.gr 1 (l75 v3).length), (.map 2)], .row false 76 2 (l75 v3), .map (mE e75 e2 v4)]) [0, 1, 2] (F53_ok k v1 v2 v3 v4 v5 h1) rfl (by decide) ⟨(by simp [AV.ren, AV.rens, AObj.ren, gname]), (by simp [AV.ren, AV.rens, AObj.ren, gname]), (by simp [AV.ren, AV.rens, AObj.ren, gname]), trivial⟩ (by simp [AV.low, AV.lows, AObj.low]) (by simp [AV.low, AV.lows, AObj.low]) (by kernel_rfl) (by simp [AV.ren, AV.rens, AObj.ren, gname, putBack]) (by simp [AV.ren, AV.rens, AObj.ren, gname, putBack]) (by simp [AV.ren, AV.rens, AObj.ren, gname, putBack]))) ?_
  refine ze hT 1 [1, 2, 3, 15] [(1, (.sl (l2 v1))), (2, (.sl (l2 v2))), (3, (.fn 74 [(.ptr 0 0)] [])), (15, (.bool (!v5)))] ?_
  refine AE_seqN ?_
  rcases bif_split h with ⟨h2, h⟩ | ⟨h2, h⟩
  · refine zT h2 ?_
    refine zs hT [8] [(8, .nil)] ?_
    refine AE_ret ?_
    refine AE_seqR ?_
    refine zK [8] [(8, .nil)] ?_
    refine AE_weak (env' := [(8, (.sl (l2 [])))]) (Sub.cons (by have e : aget [(8, .nil)] 8 = .nil := (by kernel_rfl); rw [e]; exact Weak.nil) Sub.nil) ?_
    simp only [Option.some.injEq, Prod.mk.injEq] at h
    obtain ⟨rfl, rfl, rfl⟩ := h
    exact zEnd
  · refine zN h2 ?_
    refine AE_skip ?_
    refine AE_seqN ?_
    refine zs hT [1, 2, 3, 9] [(1, (.sl (l2 v1))), (2, (.sl (l2 v2))), (3, (.fn 74 [(.ptr 0 0)] [])), (9, .nil)] ?_
    refine AW_seq ?_
    refine zs hT [1, 2, 3, 9, 17, 18] [(1, (.sl (l2 v1))), (2, (.sl (l2 v2))), (3, (.fn 74 [(.ptr 0 0)] [])), (9, .nil), (17, (aI ((l2 v1).length : Int))), (18, (aI 0))] ?_
    refine AW_block ?_
    refine zKw [1, 2, 3, 9, 17, 18] [(1, (.sl (l2 v1))), (2, (.sl (l2 v2))), (3, (.fn 74 [(.ptr 0 0)] [])), (9, .nil), (17, (aI ((l2 v1).length : Int))), (18, (aI 0))] ?_
    refine AW_gh (Gh.row false 3 1 (xs := l2 []) rfl (by kernel_rfl) (L' := [.cells [(.gr 1 (l75 v3).length), (.map 2)], .row false 76 2 (l75 v3), .map (mE e75 e2 v4), .row false 3 1 (l2 [])]) (by kernel_rfl)) ?_
    refine AW_weak (env' := [(1, (.sl (l2 v1))), (2, (.sl (l2 v2))), (3, (.fn 74 [(.ptr 0 0)] [])), (9, (.gr 3 (l2 []).length)), (17, (aI ((l2 v1).length : Int))), (18, (aI 0))]) (Sub.keep (by kernel_rfl) (Sub.keep (by kernel_rfl) (Sub.keep (by kernel_rfl) (Sub.cons (by have e : aget [(1, (.sl (l2 v1))), (2, (.sl (l2 v2))), (3, (.fn 74 [(.ptr 0 0)] [])), (9, .nil), (17, (aI ((l2 v1).length : Int))), (18, (aI 0))] 9 = .nil := (by kernel_rfl); rw [e]; exact (Weak.void (mu := false) (e := 3) (k := 1) (xs := l2 []) (by kernel_rfl) rfl rfl)) (Sub.keep (by kernel_rfl) (Sub.keep (by kernel_rfl) Sub.nil)))))) ?_
    refine AW_loop (fun n env L => n ≤ k ∧ ∃ (v6 : Int) (v7 : (List T75)) (v8 : (List (T75 × Int))) (v9 : (List Int)), env = [(1, (.sl (l2 v1))), (2, (.sl (l2 v2))), (3, (.fn 74 [(.ptr 0 0)] [])), (9, (.gr 3 (l2 v9).length)), (17, (aI ((l2 v1).length : Int))), (18, (aI v6))] ∧ L = [.cells [(.gr 1 (l75 v7).length), (.map 2)], .row false 76 2 (l75 v7), .map (mE e75 e2 v8), .row false 3 1 (l2 v9)] ∧ F47_1_l0 n v1 v2 v6 v7 v8 v9 = some (r1, r2, r3)) k ⟨Nat.le_refl _, 0, v3, v4, [], rfl, rfl, h⟩ ?_
    rintro n _ _ ⟨hn, v6, v7, v8, v9, rfl, rfl, h⟩
    cases n with
    | zero => rw [F47_1_l0] at h; cases h
    | succ k3 =>
      rw [F47_1_l0] at h
      refine zs hT [1, 2, 3, 9, 17, 18, 19] [(1, (.sl (l2 v1))), (2, (.sl (l2 v2))), (3, (.fn 74 [(.ptr 0 0)] [])), (9, (.gr 3 (l2 v9).length)), (17, (aI ((l2 v1).length : Int))), (18, (aI v6)), (19, (.bool (decide (v6 < ((l2 v1).length : Int)))))] ?_
      refine AW_seq ?_
      rcases bif_split h with ⟨h5, h⟩ | ⟨h5, h⟩
      · refine zT h5 ?_
        refine AE_skip ?_
        refine AE_seqN ?_
        refine AW_seq ?_
        refine AW_block ?_
        refine zs hT [1, 2, 3, 9, 10, 17, 18] [(1, (.sl (l2 v1))), (2, (.sl (l2 v2))), (3, (.fn 74 [(.ptr 0 0)] [])), (9, (.gr 3 (l2 v9).length)), (10, (aI v6)), (17, (aI ((l2 v1).length : Int))), (18, (aI v6))] ?_
        obtain ⟨v10, h6, h⟩ := bsm h
        try dsimp only at h
        obtain ⟨v11, h7, h⟩ := bsm h
        try dsimp only at h
        obtain ⟨⟨v12, v13, v14⟩, h8, h⟩ := bsm h
        try dsimp only at h
        obtain ⟨v15, h9, h⟩ := bsm h
        try dsimp only at h
        refine AW_drx hmix [⟨(.gr 3 (l2 v9).length), [], 0, 1, false⟩, ⟨(.fn 74 [(.ptr 0 0)] []), [], 0, 0, false⟩, ⟨(.sl (l2 v1)), [], 0, 0, false⟩, ⟨(aI v6), [], 0, 0, false⟩, ⟨(.rp [(aI v10)]), [2, 3], 0, 0, false⟩, ⟨(aI v10), [2, 3, 4], 0, 0, false⟩, ⟨(.sl (l2 v2)), [], 0, 0, false⟩, ⟨(aI v6), [], 0, 0, false⟩, ⟨(.rp [(aI v11)]), [6, 7], 0, 0, false⟩, ⟨(aI v11), [6, 7, 8], 0, 0, false⟩, ⟨(aI v12), [1, 2, 3, 4, 5, 6, 7, 8, 9], 0, 0, true⟩, ⟨(.sl (l2 [v12])), [1, 2, 3, 4, 5, 6, 7, 8, 9, 10], 1, 1, false⟩, ⟨(.gr 3 (l2 v15).length), [0, 1, 2, 3, 4, 5, 6, 7, 8, 9, 10, 11], 1, 1, true⟩, ⟨(.gr 3 (l2 v15).length), [0, 1, 2, 3, 4, 5, 6, 7, 8, 9, 10, 11, 12], 2, 2, false⟩] [10, 12] (fun p => match p with | 0 => [.cells [(.gr 1 (l75 v7).length), (.map 2)], .row false 76 2 (l75 v7), .map (mE e75 e2 v8), .row false 3 1 (l2 v9)] | 1 => [.cells [(.gr 1 (l75 v13).length), (.map 2)], .row false 76 2 (l75 v13), .map (mE e75 e2 v14), .row false 3 1 (l2 v9)] | _ => [.cells [(.gr 1 (l75 v13).length), (.map 2)], .row false 76 2 (l75 v13), .map (mE e75 e2 v14), .row false 3 1 (l2 v15)]) [1, 2, 3, 9, 17, 18] [(1, (.sl (l2 v1))), (2, (.sl (l2 v2))), (3, (.fn 74 [(.ptr 0 0)] [])), (9, (.gr 3 (l2 v15).length)), (17, (aI ((l2 v1).length : Int))), (18, (aI v6))] [.cells [(.gr 1 (l75 v13).length), (.map 2)], .row false 76 2 (l75 v13), .map (mE e75 e2 v14), .row false 3 1 (l2 v15)] (by kernel_rfl) rfl rfl (by kernel_rfl) ?_ ?_
        · refine SA_plain hT 4 (by kernel_rfl) ?_
          refine SA_tell (v := (.rp [(aI v10)])) (by kernel_rfl) (by kernel_rfl) (by kernel_rfl) (fun L => (jX hT 1 (i2 h6))) ?_
          refine SA_plain hT 3 (by kernel_rfl) ?_
          refine SA_tell (v := (.rp [(aI v11)])) (by kernel_rfl) (by kernel_rfl) (by kernel_rfl) (fun L => (jX hT 1 (i2 h7))) ?_
          refine SA_plain hT 1 (by kernel_rfl) ?_
          refine SA_at 0 (v := (aI v12)) (Lp := [.cells [(.gr 1 (l75 v7).length), (.map 2)], .row false 76 2 (l75 v7), .map (mE e75 e2 v8), .row false 3 1 (l2 v9)]) (Lq := [.cells [(.gr 1 (l75 v13).length), (.map 2)], .row false 76 2 (l75 v13), .map (mE e75 e2 v14), .row false 3 1 (l2 v9)]) (by kernel_rfl) (by kernel_rfl) (by kernel_rfl) (by kernel_rfl) (by kernel_rfl) (by kernel_rfl) (jC Go.Proofs.Try.func74 (Fn_in (L := [.cells [(.gr 1 (l75 v7).length), (.map 2)], .row false 76 2 (l75 v7), .map (mE e75 e2 v8), .row false 3 1 (l2 v9)]) (args' := [(.ptr 0 0), (aI v10), (aI v11)]) (res' := (aI v12)) (L'' := [.cells [(.gr 1 (l75 v13).length), (.map 2)], .row false 76 2 (l75 v13), .map (mE e75 e2 v14), .row false 3 1 (l2 v9)]) [0, 1, 2] (F74_ok k3 v10 v11 v7 v8 v12 v13 v14 h8) rfl (by decide) ⟨(by simp [AV.ren, AV.rens, AObj.ren, gname]), (by simp [AV.ren, AV.rens, AObj.ren, gname]), (by simp [AV.ren, AV.rens, AObj.ren, gname]), trivial⟩ (by simp [AV.low, AV.lows, AObj.low]) (by simp [AV.low, AV.lows, AObj.low]) (by kernel_rfl) (by simp [AV.ren, AV.rens, AObj.ren, gname, putBack]) (by simp [AV.ren, AV.rens, AObj.ren, gname, putBack]) (by simp [AV.ren, AV.rens, AObj.ren, gname, putBack]))) ?_
          refine SA_at 1 (v := (.sl (l2 [v12]))) (Lp := [.cells [(.gr 1 (l75 v13).length), (.map 2)], .row false 76 2 (l75 v13), .map (mE e75 e2 v14), .row false 3 1 (l2 v9)]) (Lq := [.cells [(.gr 1 (l75 v13).length), (.map 2)], .row false 76 2 (l75 v13), .map (mE e75 e2 v14), .row false 3 1 (l2 v9)]) (by kernel_rfl) (by kernel_rfl) (by kernel_rfl) (by kernel_rfl) (by kernel_rfl) (by kernel_rfl) (jL hT 3 1 [(aI v12)] 4) ?_
          refine SA_at 1 (v := (.gr 3 (l2 v15).length)) (Lp := [.cells [(.gr 1 (l75 v13).length), (.map 2)], .row false 76 2 (l75 v13), .map (mE e75 e2 v14), .row false 3 1 (l2 v9)]) (Lq := [.cells [(.gr 1 (l75 v13).length), (.map 2)], .row false 76 2 (l75 v13), .map (mE e75 e2 v14), .row false 3 1 (l2 v15)]) (by kernel_rfl) (by kernel_rfl) (by kernel_rfl) (by kernel_rfl) (by kernel_rfl) (by kernel_rfl) (jA hT l2_map e2_k e2_one [.cells [(.gr 1 (l75 v13).length), (.map 2)], .row false 76 2 (l75 v13), .map (mE e75 e2 v14), .row false 3 1 (l2 v15)] false 3 (.gr 3 (l2 v9).length) (.sl (l2 [v12])) 3 (l2 v9).length Weak.refl rfl Weak.refl h9) ?_
          refine SA_plain hT 1 (by kernel_rfl) ?_
          exact SA_end (by kernel_rfl)
        refine AE_blkN ?_
        refine AE_seqN ?_
        refine zr hT [1, 2, 3, 9, 17, 18] [(1, (.sl (l2 v1))), (2, (.sl (l2 v2))), (3, (.fn 74 [(.ptr 0 0)] [])), (9, (.gr 3 (l2 v15).length)), (17, (aI ((l2 v1).length : Int))), (18, (aI (IntKind.wrap .i64 (v6 + 1))))] ?_
        refine zK [1, 2, 3, 9, 17, 18] [(1, (.sl (l2 v1))), (2, (.sl (l2 v2))), (3, (.fn 74 [(.ptr 0 0)] [])), (9, (.gr 3 (l2 v15).length)), (17, (aI ((l2 v1).length : Int))), (18, (aI (IntKind.wrap .i64 (v6 + 1))))] ?_
        exact AE_done ⟨k3, by omega, by omega, (IntKind.wrap .i64 (v6 + 1)), v13, v14, v15, rfl, rfl, h⟩
      · refine zN h5 ?_
        refine AE_exit ?_
        refine AE_seqX ?_
        refine AE_seqX ?_
        refine AE_blkH ?_
        refine AE_seqN ?_
        refine AW_seq ?_
        obtain ⟨v16, h10, h⟩ := bsm h
        try dsimp only at h
        refine AW_reg ?_
        refine zm hT 1 [35] [(35, (.gr 3 (l2 v9).length))] ?_
        refine zO (jC Go.Proofs.Try.func64 (Fn_args (args := [(.gr 3 (l2 v9).length)]) (args' := [(.sl (l2 v9))]) (fP (F64_ok k3 v9 v16 h10)) ⟨(Weak.view (e := 3) (k := 1) (xs := l2 v9) (by kernel_rfl) rfl), trivial⟩)) ?_
        refine ze hT 1 [8] [(8, (.sl (l2 v16)))] ?_
        refine AE_seqN ?_
        refine AE_ret ?_
        refine zK [8] [(8, (.sl (l2 v16)))] ?_
        simp only [Option.some.injEq, Prod.mk.injEq] at h
        obtain ⟨rfl, rfl, rfl⟩ := h
        exact zEnd

def F50 (k : Nat) (v1 : (List Int)) (v2 : (List Int)) (v3 : (List T75)) (v4 : (List (T75 × Int))) : Option ((List Int) × (List T75) × (List (T75 × Int))) :=
  ((F47_1 k v1 v2 v3 v4).bind fun ⟨v5, v6, v7⟩ =>
    some (v5, v6, v7))

theorem F50_ok (k : Nat) : ∀ (v1 : (List Int)) (v2 : (List Int)) (v3 : (List T75)) (v4 : (List (T75 × Int))) (r1 : (List Int)) (r2 : (List T75)) (r3 : (List (T75 × Int))), F50 k v1 v2 v3 v4 = some (r1, r2, r3) → Fn prog 50 [(.ptr 0 0), (.sl (l2 v1)), (.sl (l2 v2))] [.cells [(.gr 1 (l75 v3).length), (.map 2)], .row false 76 2 (l75 v3), .map (mE e75 e2 v4)] (.sl (l2 r1)) [.cells [(.gr 1 (l75 r2).length), (.map 2)], .row false 76 2 (l75 r2), .map (mE e75 e2 r3)] := by
  intro v1 v2 v3 v4 r1 r2 r3 h
  rw [F50] at h
  refine Fn_bodyK hT Go.Proofs.Try.func50 (c := Go.Proofs.Try.f50.body.getD .skip) (by kernel_rfl) (by kernel_rfl) (by kernel_rfl) ?_
  refine zs hT [0, 1, 2] [(0, (.ptr 0 0)), (1, (.sl (l2 v1))), (2, (.sl (l2 v2)))] ?_
  refine AW_seq ?_
  obtain ⟨⟨v5, v6, v7⟩, h1, h⟩ := bsm h
  try dsimp only at h
  refine AW_reg ?_
  refine zm hT 5 [7, 8, 9, 11] [(7, (.ptr 0 0)), (8, (.sl (l2 v1))), (9, (.sl (l2 v2))), (11, (.fn 74 [(.ptr 0 0)] []))] ?_
  refine zO (jC Go.Proofs.Try.func47 (Fn_in (L := [.cells [(.gr 1 (l75 v3).length), (.map 2)], .row false 76 2 (l75 v3), .map (mE e75 e2 v4)]) (args' := [(.ptr 0 0), (.sl (l2 v1)), (.sl (l2 v2)), (.fn 74 [(.ptr 0 0)] [])]) (res' := (.sl (l2 v5))) (L'' := [.cells [(.gr 1 (l75 v6).length), (.map 2)], .row false 76 2 (l75 v6), .map (mE e75 e2 v7)]) [0, 1, 2] (F47_1_ok k v1 v2 v3 v4 v5 v6 v7 h1) rfl (by decide) ⟨(by simp [AV.ren, AV.rens, AObj.ren, gname]), (by simp [AV.ren, AV.rens, AObj.ren, gname]), (by simp [AV.ren, AV.rens, AObj.ren, gname]), trivial⟩ (by simp [AV.low, AV.lows, AObj.low]) (by simp [AV.low, AV.lows, AObj.low]) (by kernel_rfl) (by simp [AV.ren, AV.rens, AObj.ren, gname, putBack]) (by simp [AV.ren, AV.rens, AObj.ren, gname, putBack]) (by simp [AV.ren, AV.rens, AObj.ren, gname, putBack]))) ?_
  refine ze hT 1 [6] [(6, (.sl (l2 v5)))] ?_
  refine AE_seqN ?_
  refine AE_ret ?_
  refine zK [6] [(6, (.sl (l2 v5)))] ?_
  simp only [Option.some.injEq, Prod.mk.injEq] at h
  obtain ⟨rfl, rfl, rfl⟩ := h
  exact zEnd

def F51_l1 : Nat → (List Int) → Int → Int → (List T75) → (List (T75 × Int)) → Option (Int × (List T75) × (List (T75 × Int)))
  | 0, _, _, _, _, _ => none
  | k3 + 1, v1, v4, v5, v6, v7 =>
    (bif (decide (v5 < ((l2 v1).length : Int))) then
      ((idx v1 v5).bind fun v8 =>
        ((F65 k3 v4 v8 v6 v7).bind fun ⟨v9, v10, v11⟩ =>
          F51_l1 k3 v1 v9 (IntKind.wrap .i64 (v5 + 1)) v10 v11))
    else
      some (v4, v6, v7))

def F51_j0 (k1 : Nat) (v1 : (List Int)) (v2 : (List T75)) (v3 : (List (T75 × Int))) : Option (Int × (List T75) × (List (T75 × Int))) :=
  F51_l1 k1 v1 1 0 v2 v3

def F51 (k : Nat) (v1 : (List Int)) (v2 : (List T75)) (v3 : (List (T75 × Int))) : Option (Int × (List T75) × (List (T75 × Int))) :=
  F51_j0 k v1 v2 v3

theorem F51_ok (k : Nat) : ∀ (v1 : (List Int)) (v2 : (List T75)) (v3 : (List (T75 × Int))) (r1 : Int) (r2 : (List T75)) (r3 : (List (T75 × Int))), F51 k v1 v2 v3 = some (r1, r2, r3) → Fn prog 51 [(.ptr 0 0), (.sl (l2 v1))] [.cells [(.gr 1 (l75 v2).length), (.map 2)], .row false 76 2 (l75 v2), .map (mE e75 e2 v3)] (aI r1) [.cells [(.gr 1 (l75 r2).length), (.map 2)], .row false 76 2 (l75 r2), .map (mE e75 e2 r3)] := by
  intro v1 v2 v3 r1 r2 r3 h
  rw [F51] at h
  refine Fn_bodyK hT Go.Proofs.Try.func51 (c := Go.Proofs.Try.f51.body.getD .skip) (by kernel_rfl) (by kernel_rfl) (by kernel_rfl) ?_
  refine zs hT [0, 1] [(0, (.ptr 0 0)), (1, (.sl (l2 v1)))] ?_
  refine AW_seq ?_
  refine AW_join (fun env L => ∃ (_ : Unit), env = [(0, (.ptr 0 0)), (1, (.sl (l2 v1))), (16, (.bool false))] ∧ L = [.cells [(.gr 1 (l75 v2).length), (.map 2)], .row false 76 2 (l75 v2), .map (mE e75 e2 v3)] ∧ ∃ n, n ≤ k ∧ F51_j0 n v1 v2 v3 = some (r1, r2, r3)) ?_ ?_
  · refine zr hT [0, 1, 16] [(0, (.ptr 0 0)), (1, (.sl (l2 v1))), (16, (.bool false))] ?_
    refine zK [0, 1, 16] [(0, (.ptr 0 0)), (1, (.sl (l2 v1))), (16, (.bool false))] ?_
    exact AE_done ⟨(), rfl, rfl, k, by omega, h⟩
  · rintro _ _ ⟨_, rfl, rfl, n, hn, h⟩
    obtain ⟨k1, rfl⟩ : ∃ q, q = n := ⟨n, rfl⟩
    rw [F51_j0] at h
    refine zN (q := false) rfl ?_
    refine AE_skip ?_
    refine AE_seqN ?_
    refine zs hT [0, 1, 5] [(0, (.ptr 0 0)), (1, (.sl (l2 v1))), (5, (aI 1))] ?_
    refine AW_seq ?_
    refine zs hT [0, 5, 17, 18, 19] [(0, (.ptr 0 0)), (5, (aI 1)), (17, (.sl (l2 v1))), (18, (aI ((l2 v1).length : Int))), (19, (aI 0))] ?_
    refine AW_block ?_
    refine zKw [0, 5, 17, 18, 19] [(0, (.ptr 0 0)), (5, (aI 1)), (17, (.sl (l2 v1))), (18, (aI ((l2 v1).length : Int))), (19, (aI 0))] ?_
    refine AW_loop (fun n env L => n ≤ k1 ∧ ∃ (v4 : Int) (v5 : Int) (v6 : (List T75)) (v7 : (List (T75 × Int))), env = [(0, (.ptr 0 0)), (5, (aI v4)), (17, (.sl (l2 v1))), (18, (aI ((l2 v1).length : Int))), (19, (aI v5))] ∧ L = [.cells [(.gr 1 (l75 v6).length), (.map 2)], .row false 76 2 (l75 v6), .map (mE e75 e2 v7)] ∧ F51_l1 n v1 v4 v5 v6 v7 = some (r1, r2, r3)) k1 ⟨Nat.le_refl _, 1, 0, v2, v3, rfl, rfl, h⟩ ?_
    rintro n _ _ ⟨hn, v4, v5, v6, v7, rfl, rfl, h⟩
    cases n with
    | zero => rw [F51_l1] at h; cases h
    | succ k3 =>
      rw [F51_l1] at h
      refine zs hT [0, 5, 17, 18, 19, 20] [(0, (.ptr 0 0)), (5, (aI v4)), (17, (.sl (l2 v1))), (18, (aI ((l2 v1).length : Int))), (19, (aI v5)), (20, (.bool (decide (v5 < ((l2 v1).length : Int)))))] ?_
      refine AW_seq ?_
      rcases bif_split h with ⟨h5, h⟩ | ⟨h5, h⟩
      · refine zT h5 ?_
        refine AE_skip ?_
        refine AE_seqN ?_
        refine AW_seq ?_
        refine AW_block ?_
        refine AW_seq ?_
        obtain ⟨v8, h6, h⟩ := bsm h
        try dsimp only at h
        refine AW_reg ?_
        refine zO (jX hT 1 (i2 h6)) ?_
        refine ze hT 2 [0, 5, 7, 17, 18, 19] [(0, (.ptr 0 0)), (5, (aI v4)), (7, (aI v8)), (17, (.sl (l2 v1))), (18, (aI ((l2 v1).length : Int))), (19, (aI v5))] ?_
        refine AE_seqN ?_
        obtain ⟨⟨v9, v10, v11⟩, h7, h⟩ := bsm h
        try dsimp only at h
        refine AW_reg ?_
        refine zm hT 3 [0, 5, 17, 18, 19, 23, 24, 25] [(0, (.ptr 0 0)), (5, (aI v4)), (17, (.sl (l2 v1))), (18, (aI ((l2 v1).length : Int))), (19, (aI v5)), (23, (.ptr 0 0)), (24, (aI v4)), (25, (aI v8))] ?_
        refine zO (jC Go.Proofs.Try.func65 (Fn_in (L := [.cells [(.gr 1 (l75 v6).length), (.map 2)], .row false 76 2 (l75 v6), .map (mE e75 e2 v7)]) (args' := [(.ptr 0 0), (aI v4), (aI v8)]) (res' := (aI v9)) (L'' := [.cells [(.gr 1 (l75 v10).length), (.map 2)], .row false 76 2 (l75 v10), .map (mE e75 e2 v11)]) [0, 1, 2] (F65_ok k3 v4 v8 v6 v7 v9 v10 v11 h7) rfl (by decide) ⟨(by simp [AV.ren, AV.rens, AObj.ren, gname]), (by simp [AV.ren, AV.rens, AObj.ren, gname]), (by simp [AV.ren, AV.rens, AObj.ren, gname]), trivial⟩ (by simp [AV.low, AV.lows, AObj.low]) (by simp [AV.low, AV.lows, AObj.low]) (by kernel_rfl) (by simp [AV.ren, AV.rens, AObj.ren, gname, putBack]) (by simp [AV.ren, AV.rens, AObj.ren, gname, putBack]) (by simp [AV.ren, AV.rens, AObj.ren, gname, putBack]))) ?_
        refine ze hT 1 [0, 5, 17, 18, 19] [(0, (.ptr 0 0)), (5, (aI v9)), (17, (.sl (l2 v1))), (18, (aI ((l2 v1).length : Int))), (19, (aI v5))] ?_
        refine AE_blkN ?_
        refine AE_seqN ?_
        refine zr hT [0, 5, 17, 18, 19] [(0, (.ptr 0 0)), (5, (aI v9)), (17, (.sl (l2 v1))), (18, (aI ((l2 v1).length : Int))), (19, (aI (IntKind.wrap .i64 (v5 + 1))))] ?_
        refine zK [0, 5, 17, 18, 19] [(0, (.ptr 0 0)), (5, (aI v9)), (17, (.sl (l2 v1))), (18, (aI ((l2 v1).length : Int))), (19, (aI (IntKind.wrap .i64 (v5 + 1))))] ?_
        exact AE_done ⟨k3, by omega, by omega, v9, (IntKind.wrap .i64 (v5 + 1)), v10, v11, rfl, rfl, h⟩
      · refine zN h5 ?_
        refine AE_exit ?_
        refine AE_seqX ?_
        refine AE_seqX ?_
        refine AE_blkH ?_
        refine AE_seqN ?_
        refine zs hT [4] [(4, (aI v4))] ?_
        refine AE_ret ?_
        refine zK [4] [(4, (aI v4))] ?_
        simp only [Option.some.injEq, Prod.mk.injEq] at h
        obtain ⟨rfl, rfl, rfl⟩ := h
        exact zEnd

def F75 (k : Nat) (v1 : Int) (v2 : Int) : Option (Int) :=
  some ((bits .xor .i64 v1 1))

theorem F75_ok (k : Nat) : ∀ (v1 : Int) (v2 : Int) (r1 : Int), F75 k v1 v2 = some (r1) → Fn prog 75 [(aI v1), (aI v2)] [] (aI r1) [] := by
  intro v1 v2 r1 h
  rw [F75] at h
  refine Fn_bodyK hT Go.Proofs.Try.func75 (c := Go.Proofs.Try.f75.body.getD .skip) (by kernel_rfl) (by kernel_rfl) (by kernel_rfl) ?_
  refine zs hT [0] [(0, (aI v1))] ?_
  refine zs hT [4] [(4, (aI (bits .xor .i64 v1 1)))] ?_
  refine AE_ret ?_
  refine zK [4] [(4, (aI (bits .xor .i64 v1 1)))] ?_
  simp only [Option.some.injEq] at h
  subst h
  exact zEnd

def F47_2_l0 : Nat → (List Int) → (List Int) → Int → (List Int) → Option ((List Int))
  | 0, _, _, _, _ => none
  | k3 + 1, v1, v2, v6, v7 =>
    (bif (decide (v6 < ((l2 v1).length : Int))) then
      ((idx v1 v6).bind fun v8 =>
        ((idx v2 v6).bind fun v9 =>
          ((F75 k3 v8 v9).bind fun v10 =>
            ((appL 8 v7 [v10]).bind fun v11 =>
              F47_2_l0 k3 v1 v2 (IntKind.wrap .i64 (v6 + 1)) v11))))
    else
      ((F64 k3 v7).bind fun v12 =>
        some (v12)))

def F47_2 (k : Nat) (v1 : (List Int)) (v2 : (List Int)) (v3 : (List T75)) (v4 : (List (T75 × Int))) : Option ((List Int)) :=
  ((F53 k v1 v2 v3 v4).bind fun v5 =>
    (bif (!v5) then
      some ([])
    else
      F47_2_l0 k v1 v2 0 []))

theorem F47_2_ok (k : Nat) : ∀ (v1 : (List Int)) (v2 : (List Int)) (v3 : (List T75)) (v4 : (List (T75 × Int))) (r1 : (List Int)), F47_2 k v1 v2 v3 v4 = some (r1) → Fn prog 47 [(.ptr 0 0), (.sl (l2 v1)), (.sl (l2 v2)), (.fn 75 [] [])] [.cells [(.gr 1 (l75 v3).length), (.map 2)], .row false 76 2 (l75 v3), .map (mE e75 e2 v4)] (.sl (l2 r1)) [.cells [(.gr 1 (l75 v3).length), (.map 2)], .row false 76 2 (l75 v3), .map (mE e75 e2 v4)] := by
  intro v1 v2 v3 v4 r1 h
  rw [F47_2] at h
  refine Fn_bodyK hT Go.Proofs.Try.func47 (c := Go.Proofs.Try.f47.body.getD .skip) (by kernel_rfl) (by kernel_rfl) (by kernel_rfl) ?_
  refine zs hT [0, 1, 2, 3] [(0, (.ptr 0 0)), (1, (.sl (l2 v1))), (2, (.sl (l2 v2))), (3, (.fn 75 [] []))] ?_
  refine AW_seq ?_
  refine AW_seq ?_
  obtain ⟨v5, h1, h⟩ := bsm h
  try dsimp only at h
  refine AW_reg ?_
  refine zm hT 3 [1, 2, 3, 11, 12, 13] [(1, (.sl (l2 v1))), (2, (.sl (l2 v2))), (3, (.fn 75 [] [])), (11, (.ptr 0 0)), (12, (.sl (l2 v1))), (13, (.sl (l2 v2)))] ?_
  refine zO (jC Go.Proofs.Try.func53 (Fn_in (L := [.cells [(.gr 1 (l75 v3).length), (.map 2)], .row false 76 2 (l75 v3), .map (mE e75 e2 v4)]) (args' := [(.ptr 0 0), (.sl (l2 v1)), (.sl (l2 v2))]) (res' := (.bool v5)) (L'' := [.cells [(.gr 1 (l75 v3).length), (.map 2)], .row false 76 2 (l75 v3), .map (mE e75 e2 v4)]) [0, 1, 2] (F53_ok k v1 v2 v3 v4 v5 h1) rfl (by decide) ⟨(by simp [AV.ren, AV.rens, AObj.ren, gname]), (by simp [AV.ren, AV.rens, AObj.ren, gname]), (by simp [AV.ren, AV.rens, AObj.ren, gname]), trivial⟩ (by simp [AV.low, AV.lows, AObj.low]) (by simp [AV.low, AV.lows, AObj.low]) (by kernel_rfl) (by simp [AV.ren, AV.rens, AObj.ren, gname, putBack]) (by simp [AV.ren, AV.rens, AObj.ren, gname, putBack]) (by simp [AV.ren, AV.rens, AObj.ren, gname, putBack]))) ?_
  refine ze hT 1 [1, 2, 3, 15] [(1, (.sl (l2 v1))), (2, (.sl (l2 v2))), (3, (.fn 75 [] [])), (15, (.bool (!v5)))] ?_
  refine AE_seqN ?_
  rcases bif_split h with ⟨h2, h⟩ | ⟨h2, h⟩
  · refine zT h2 ?_
    refine zs hT [8] [(8, .nil)] ?_
    refine AE_ret ?_
    refine AE_seqR ?_
    refine zK [8] [(8, .nil)] ?_
    refine AE_weak (env' := [(8, (.sl (l2 [])))]) (Sub.cons (by have e : aget [(8, .nil)] 8 = .nil := (by kernel_rfl); rw [e]; exact Weak.nil) Sub.nil) ?_
    simp only [Option.some.injEq] at h
    subst h
    exact zEnd
  · refine zN h2 ?_
    refine AE_skip ?_
    refine AE_seqN ?_
    refine zs hT [1, 2, 3, 9] [(1, (.sl (l2 v1))), (2, (.sl (l2 v2))), (3, (.fn 75 [] [])), (9, .nil)] ?_
    refine AW_seq ?_
    refine zs hT [1, 2, 3, 9, 17, 18] [(1, (.sl (l2 v1))), (2, (.sl (l2 v2))), (3, (.fn 75 [] [])), (9, .nil), (17, (aI ((l2 v1).length : Int))), (18, (aI 0))] ?_
    refine AW_block ?_
    refine zKw [1, 2, 3, 9, 17, 18] [(1, (.sl (l2 v1))), (2, (.sl (l2 v2))), (3, (.fn 75 [] [])), (9, .nil), (17, (aI ((l2 v1).length : Int))), (18, (aI 0))] ?_
    refine AW_gh (Gh.row false 3 1 (xs := l2 []) rfl (by kernel_rfl) (L' := [.cells [(.gr 1 (l75 v3).length), (.map 2)], .row false 76 2 (l75 v3), .map (mE e75 e2 v4), .row false 3 1 (l2 [])]) (by kernel_rfl)) ?_
    refine AW_weak (env' := [(1, (.sl (l2 v1))), (2, (.sl (l2 v2))), (3, (.fn 75 [] [])), (9, (.gr 3 (l2 []).length)), (17, (aI ((l2 v1).length : Int))), (18, (aI 0))]) (Sub.keep (by kernel_rfl) (Sub.keep (by kernel_rfl) (Sub.keep (by kernel_rfl) (Sub.cons (by have e : aget [(1, (.sl (l2 v1))), (2, (.sl (l2 v2))), (3, (.fn 75 [] [])), (9, .nil), (17, (aI ((l2 v1).length : Int))), (18, (aI 0))] 9 = .nil := (by kernel_rfl); rw [e]; exact (Weak.void (mu := false) (e := 3) (k := 1) (xs := l2 []) (by kernel_rfl) rfl rfl)) (Sub.keep (by kernel_rfl) (Sub.keep (by kernel_rfl) Sub.nil)))))) ?_
    refine AW_loop (fun n env L => n ≤ k ∧ ∃ (v6 : Int) (v7 : (List Int)), env = [(1, (.sl (l2 v1))), (2, (.sl (l2 v2))), (3, (.fn 75 [] [])), (9, (.gr 3 (l2 v7).length)), (17, (aI ((l2 v1).length : Int))), (18, (aI v6))] ∧ L = [.cells [(.gr 1 (l75 v3).length), (.map 2)], .row false 76 2 (l75 v3), .map (mE e75 e2 v4), .row false 3 1 (l2 v7)] ∧ F47_2_l0 n v1 v2 v6 v7 = some (r1)) k ⟨Nat.le_refl _, 0, [], rfl, rfl, h⟩ ?_
    rintro n _ _ ⟨hn, v6, v7, rfl, rfl, h⟩
    cases n with
    | zero => rw [F47_2_l0] at h; cases h
    | succ k3 =>
      rw [F47_2_l0] at h
      refine zs hT [1, 2, 3, 9, 17, 18, 19] [(1, (.sl (l2 v1))), (2, (.sl (l2 v2))), (3, (.fn 75 [] [])), (9, (.gr 3 (l2 v7).length)), (17, (aI ((l2 v1).length : Int))), (18, (aI v6)), (19, (.bool (decide (v6 < ((l2 v1).length : Int)))))] ?_
      refine AW_seq ?_
      rcases bif_split h with ⟨h5, h⟩ | ⟨h5, h⟩
      · refine zT h5 ?_
        refine AE_skip ?_
        refine AE_seqN ?_
        refine AW_seq ?_
        refine AW_block ?_
        refine zs hT [1, 2, 3, 9, 10, 17, 18] [(1, (.sl (l2 v1))), (2, (.sl (l2 v2))), (3, (.fn 75 [] [])), (9, (.gr 3 (l2 v7).length)), (10, (aI v6)), (17, (aI ((l2 v1).length : Int))), (18, (aI v6))] ?_
        obtain ⟨v8, h6, h⟩ := bsm h
        try dsimp only at h
        obtain ⟨v9, h7, h⟩ := bsm h
        try dsimp only at h
        obtain ⟨v10, h8, h⟩ := bsm h
        try dsimp only at h
        obtain ⟨v11, h9, h⟩ := bsm h
        try dsimp only at h
        refine AW_drx hmix [⟨(.gr 3 (l2 v7).length), [], 0, 0, false⟩, ⟨(.fn 75 [] []), [], 0, 0, false⟩, ⟨(.sl (l2 v1)), [], 0, 0, false⟩, ⟨(aI v6), [], 0, 0, false⟩, ⟨(.rp [(aI v8)]), [2, 3], 0, 0, false⟩, ⟨(aI v8), [2, 3, 4], 0, 0, false⟩, ⟨(.sl (l2 v2)), [], 0, 0, false⟩, ⟨(aI v6), [], 0, 0, false⟩, ⟨(.rp [(aI v9)]), [6, 7], 0, 0, false⟩, ⟨(aI v9), [6, 7, 8], 0, 0, false⟩, ⟨(aI v10), [1, 2, 3, 4, 5, 6, 7, 8, 9], 0, 0, false⟩, ⟨(.sl (l2 [v10])), [1, 2, 3, 4, 5, 6, 7, 8, 9, 10], 0, 0, false⟩, ⟨(.gr 3 (l2 v11).length), [0, 1, 2, 3, 4, 5, 6, 7, 8, 9, 10, 11], 0, 0, true⟩, ⟨(.gr 3 (l2 v11).length), [0, 1, 2, 3, 4, 5, 6, 7, 8, 9, 10, 11, 12], 1, 1, false⟩] [12] (fun p => match p with | 0 => [.cells [(.gr 1 (l75 v3).length), (.map 2)], .row false 76 2 (l75 v3), .map (mE e75 e2 v4), .row false 3 1 (l2 v7)] | _ => [.cells [(.gr 1 (l75 v3).length), (.map 2)], .row false 76 2 (l75 v3), .map (mE e75 e2 v4), .row false 3 1 (l2 v11)]) [1, 2, 3, 9, 17, 18] [(1, (.sl (l2 v1))), (2, (.sl (l2 v2))), (3, (.fn 75 [] [])), (9, (.gr 3 (l2 v11).length)), (17, (aI ((l2 v1).length : Int))), (18, (aI v6))] [.cells [(.gr 1 (l75 v3).length), (.map 2)], .row false 76 2 (l75 v3), .map (mE e75 e2 v4), .row false 3 1 (l2 v11)] (by kernel_rfl) rfl rfl (by kernel_rfl) ?_ ?_
        · refine SA_plain hT 4 (by kernel_rfl) ?_
          refine SA_tell (v := (.rp [(aI v8)])) (by kernel_rfl) (by kernel_rfl) (by kernel_rfl) (fun L => (jX hT 1 (i2 h6))) ?_
          refine SA_plain hT 3 (by kernel_rfl) ?_
          refine SA_tell (v := (.rp [(aI v9)])) (by kernel_rfl) (by kernel_rfl) (by kernel_rfl) (fun L => (jX hT 1 (i2 h7))) ?_
          refine SA_plain hT 1 (by kernel_rfl) ?_
          refine SA_tell (v := (aI v10)) (by kernel_rfl) (by kernel_rfl) (by kernel_rfl) (fun L => (jP Go.Proofs.Try.func75 (F75_ok k3 v8 v9 v10 h8))) ?_
          refine SA_at 0 (v := (.sl (l2 [v10]))) (Lp := [.cells [(.gr 1 (l75 v3).length), (.map 2)], .row false 76 2 (l75 v3), .map (mE e75 e2 v4), .row false 3 1 (l2 v7)]) (Lq := [.cells [(.gr 1 (l75 v3).length), (.map 2)], .row false 76 2 (l75 v3), .map (mE e75 e2 v4), .row false 3 1 (l2 v7)]) (by kernel_rfl) (by kernel_rfl) (by kernel_rfl) (by kernel_rfl) (by kernel_rfl) (by kernel_rfl) (jL hT 3 1 [(aI v10)] 4) ?_
          refine SA_at 0 (v := (.gr 3 (l2 v11).length)) (Lp := [.cells [(.gr 1 (l75 v3).length), (.map 2)], .row false 76 2 (l75 v3), .map (mE e75 e2 v4), .row false 3 1 (l2 v7)]) (Lq := [.cells [(.gr 1 (l75 v3).length), (.map 2)], .row false 76 2 (l75 v3), .map (mE e75 e2 v4), .row false 3 1 (l2 v11)]) (by kernel_rfl) (by kernel_rfl) (by kernel_rfl) (by kernel_rfl) (by kernel_rfl) (by kernel_rfl) (jA hT l2_map e2_k e2_one [.cells [(.gr 1 (l75 v3).length), (.map 2)], .row false 76 2 (l75 v3), .map (mE e75 e2 v4), .row false 3 1 (l2 v11)] false 3 (.gr 3 (l2 v7).length) (.sl (l2 [v10])) 3 (l2 v7).length Weak.refl rfl Weak.refl h9) ?_
          refine SA_plain hT 1 (by kernel_rfl) ?_
          exact SA_end (by kernel_rfl)
        refine AE_blkN ?_
        refine AE_seqN ?_
        refine zr hT [1, 2, 3, 9, 17, 18] [(1, (.sl (l2 v1))), (2, (.sl (l2 v2))), (3, (.fn 75 [] [])), (9, (.gr 3 (l2 v11).length)), (17, (aI ((l2 v1).length : Int))), (18, (aI (IntKind.wrap .i64 (v6 + 1))))] ?_
        refine zK [1, 2, 3, 9, 17, 18] [(1, (.sl (l2 v1))), (2, (.sl (l2 v2))), (3, (.fn 75 [] [])), (9, (.gr 3 (l2 v11).length)), (17, (aI ((l2 v1).length : Int))), (18, (aI (IntKind.wrap .i64 (v6 + 1))))] ?_
        exact AE_done ⟨k3, by omega, by omega, (IntKind.wrap .i64 (v6 + 1)), v11, rfl, rfl, h⟩
      · refine zN h5 ?_
        refine AE_exit ?_
        refine AE_seqX ?_
        refine AE_seqX ?_
        refine AE_blkH ?_
        refine AE_seqN ?_
        refine AW_seq ?_
        obtain ⟨v12, h10, h⟩ := bsm h
        try dsimp only at h
        refine AW_reg ?_
        refine zm hT 1 [35] [(35, (.gr 3 (l2 v7).length))] ?_
        refine zO (jC Go.Proofs.Try.func64 (Fn_args (args := [(.gr 3 (l2 v7).length)]) (args' := [(.sl (l2 v7))]) (fP (F64_ok k3 v7 v12 h10)) ⟨(Weak.view (e := 3) (k := 1) (xs := l2 v7) (by kernel_rfl) rfl), trivial⟩)) ?_
        refine ze hT 1 [8] [(8, (.sl (l2 v12)))] ?_
        refine AE_seqN ?_
        refine AE_ret ?_
        refine zK [8] [(8, (.sl (l2 v12)))] ?_
        simp only [Option.some.injEq] at h
        subst h
        exact zEnd

def F52 (k : Nat) (v1 : (List Int)) (v2 : (List T75)) (v3 : (List (T75 × Int))) : Option ((List Int)) :=
  ((F47_2 k v1 v1 v2 v3).bind fun v4 =>
    some (v4))

theorem F52_ok (k : Nat) : ∀ (v1 : (List Int)) (v2 : (List T75)) (v3 : (List (T75 × Int))) (r1 : (List Int)), F52 k v1 v2 v3 = some (r1) → Fn prog 52 [(.ptr 0 0), (.sl (l2 v1))] [.cells [(.gr 1 (l75 v2).length), (.map 2)], .row false 76 2 (l75 v2), .map (mE e75 e2 v3)] (.sl (l2 r1)) [.cells [(.gr 1 (l75 v2).length), (.map 2)], .row false 76 2 (l75 v2), .map (mE e75 e2 v3)] := by
  intro v1 v2 v3 r1 h
  rw [F52] at h
  refine Fn_bodyK hT Go.Proofs.Try.func52 (c := Go.Proofs.Try.f52.body.getD .skip) (by kernel_rfl) (by kernel_rfl) (by kernel_rfl) ?_
  refine zs hT [0, 1] [(0, (.ptr 0 0)), (1, (.sl (l2 v1)))] ?_
  refine AW_seq ?_
  obtain ⟨v4, h1, h⟩ := bsm h
  try dsimp only at h
  refine AW_reg ?_
  refine zm hT 3 [5, 6, 7] [(5, (.ptr 0 0)), (6, (.sl (l2 v1))), (7, (.sl (l2 v1)))] ?_
  refine zO (jC Go.Proofs.Try.func47 (Fn_in (L := [.cells [(.gr 1 (l75 v2).length), (.map 2)], .row false 76 2 (l75 v2), .map (mE e75 e2 v3)]) (args' := [(.ptr 0 0), (.sl (l2 v1)), (.sl (l2 v1)), (.fn 75 [] [])]) (res' := (.sl (l2 v4))) (L'' := [.cells [(.gr 1 (l75 v2).length), (.map 2)], .row false 76 2 (l75 v2), .map (mE e75 e2 v3)]) [0, 1, 2] (F47_2_ok k v1 v1 v2 v3 v4 h1) rfl (by decide) ⟨(by simp [AV.ren, AV.rens, AObj.ren, gname]), (by simp [AV.ren, AV.rens, AObj.ren, gname]), (by simp [AV.ren, AV.rens, AObj.ren, gname]), trivial⟩ (by simp [AV.low, AV.lows, AObj.low]) (by simp [AV.low, AV.lows, AObj.low]) (by kernel_rfl) (by simp [AV.ren, AV.rens, AObj.ren, gname, putBack]) (by simp [AV.ren, AV.rens, AObj.ren, gname, putBack]) (by simp [AV.ren, AV.rens, AObj.ren, gname, putBack]))) ?_
  refine ze hT 1 [4] [(4, (.sl (l2 v4)))] ?_
  refine AE_seqN ?_
  refine AE_ret ?_
  refine zK [4] [(4, (.sl (l2 v4)))] ?_
  simp only [Option.some.injEq] at h
  subst h
  exact zEnd

def F12_j0 (k2 : Nat) (v5 : (List Int)) (v6 : (List T75)) (v7 : (List (T75 × Int))) : Option (Int × (List T75) × (List (T75 × Int))) :=
  ((nnil v5).bind fun ⟨⟩ =>
    ((F52 k2 v5 v6 v7).bind fun v11 =>
      ((F51 k2 v11 v6 v7).bind fun ⟨v12, v13, v14⟩ =>
        some (v12, v13, v14))))

def F12 (k : Nat) (v1 : (List Int)) (v2 : (List Int)) (v3 : (List T75)) (v4 : (List (T75 × Int))) : Option (Int × (List T75) × (List (T75 × Int))) :=
  ((F50 k v1 v2 v3 v4).bind fun ⟨v8, v9, v10⟩ =>
    F12_j0 k v8 v9 v10)

theorem F12_ok (k : Nat) : ∀ (v1 : (List Int)) (v2 : (List Int)) (v3 : (List T75)) (v4 : (List (T75 × Int))) (r1 : Int) (r2 : (List T75)) (r3 : (List (T75 × Int))), F12 k v1 v2 v3 v4 = some (r1, r2, r3) → Fn prog 12 [(.ptr 0 0), (.sl (l2 v1)), (.sl (l2 v2))] [.cells [(.gr 1 (l75 v3).length), (.map 2)], .row false 76 2 (l75 v3), .map (mE e75 e2 v4)] (aI r1) [.cells [(.gr 1 (l75 r2).length), (.map 2)], .row false 76 2 (l75 r2), .map (mE e75 e2 r3)] := by
  intro v1 v2 v3 v4 r1 r2 r3 h
  rw [F12] at h
  refine Fn_bodyK hT Go.Proofs.Try.func12 (c := Go.Proofs.Try.f12.body.getD .skip) (by kernel_rfl) (by kernel_rfl) (by kernel_rfl) ?_
  refine zs hT [0, 1, 2] [(0, (.ptr 0 0)), (1, (.sl (l2 v1))), (2, (.sl (l2 v2)))] ?_
  refine AW_join (fun env L => ∃ (v5 : (List Int)) (v6 : (List T75)) (v7 : (List (T75 × Int))), env = [(0, (.ptr 0 0)), (7, (.sl (l2 v5)))] ∧ L = [.cells [(.gr 1 (l75 v6).length), (.map 2)], .row false 76 2 (l75 v6), .map (mE e75 e2 v7)] ∧ ∃ n, n ≤ k ∧ F12_j0 n v5 v6 v7 = some (r1, r2, r3)) ?_ ?_
  · obtain ⟨⟨v8, v9, v10⟩, h1, h⟩ := bsm h
    try dsimp only at h
    refine AW_reg ?_
    refine zm hT 3 [0, 8, 9, 10] [(0, (.ptr 0 0)), (8, (.ptr 0 0)), (9, (.sl (l2 v1))), (10, (.sl (l2 v2)))] ?_
    refine zO (jC Go.Proofs.Try.func50 (Fn_in (L := [.cells [(.gr 1 (l75 v3).length), (.map 2)], .row false 76 2 (l75 v3), .map (mE e75 e2 v4)]) (args' := [(.ptr 0 0), (.sl (l2 v1)), (.sl (l2 v2))]) (res' := (.sl (l2 v8))) (L'' := [.cells [(.gr 1 (l75 v9).length), (.map 2)], .row false 76 2 (l75 v9), .map (mE e75 e2 v10)]) [0, 1, 2] (F50_ok k v1 v2 v3 v4 v8 v9 v10 h1) rfl (by decide) ⟨(by simp [AV.ren, AV.rens, AObj.ren, gname]), (by simp [AV.ren, AV.rens, AObj.ren, gname]), (by simp [AV.ren, AV.rens, AObj.ren, gname]), trivial⟩ (by simp [AV.low, AV.lows, AObj.low]) (by simp [AV.low, AV.lows, AObj.low]) (by kernel_rfl) (by simp [AV.ren, AV.rens, AObj.ren, gname, putBack]) (by simp [AV.ren, AV.rens, AObj.ren, gname, putBack]) (by simp [AV.ren, AV.rens, AObj.ren, gname, putBack]))) ?_
    refine ze hT 1 [0, 7] [(0, (.ptr 0 0)), (7, (.sl (l2 v8)))] ?_
    refine zK [0, 7] [(0, (.ptr 0 0)), (7, (.sl (l2 v8)))] ?_
    exact AE_done ⟨v8, v9, v10, rfl, rfl, k, by omega, h⟩
  · rintro _ _ ⟨v5, v6, v7, rfl, rfl, n, hn, h⟩
    obtain ⟨k2, rfl⟩ : ∃ q, q = n := ⟨n, rfl⟩
    rw [F12_j0] at h
    refine AW_seq ?_
    refine AW_seq ?_
    obtain ⟨⟨⟩, h4, h⟩ := bsm h
    try dsimp only at h
    refine AW_reg ?_
    refine zm hT 1 [0, 7, 12] [(0, (.ptr 0 0)), (7, (.sl (l2 v5))), (12, (.sl (l2 v5)))] ?_
    refine zO (jNn hT l2_map .eql false v5 (t := 27) (e := 3) h4 (by kernel_rfl) (by kernel_rfl) (by simp)) ?_
    refine zF ?_
    refine zK [0, 7, 13] [(0, (.ptr 0 0)), (7, (.sl (l2 v5))), (13, (.bool false))] ?_
    refine AE_seqN ?_
    refine zN (q := false) rfl ?_
    refine AE_skip ?_
    refine AE_seqN ?_
    refine AW_seq ?_
    obtain ⟨v11, h5, h⟩ := bsm h
    try dsimp only at h
    obtain ⟨⟨v12, v13, v14⟩, h6, h⟩ := bsm h
    try dsimp only at h
    refine AW_reg ?_
    refine zm hT 3 [14, 15, 16] [(14, (.ptr 0 0)), (15, (.ptr 0 0)), (16, (.sl (l2 v5)))] ?_
    refine zO (jC Go.Proofs.Try.func52 (Fn_in (L := [.cells [(.gr 1 (l75 v6).length), (.map 2)], .row false 76 2 (l75 v6), .map (mE e75 e2 v7)]) (args' := [(.ptr 0 0), (.sl (l2 v5))]) (res' := (.sl (l2 v11))) (L'' := [.cells [(.gr 1 (l75 v6).length), (.map 2)], .row false 76 2 (l75 v6), .map (mE e75 e2 v7)]) [0, 1, 2] (F52_ok k2 v5 v6 v7 v11 h5) rfl (by decide) ⟨(by simp [AV.ren, AV.rens, AObj.ren, gname]), (by simp [AV.ren, AV.rens, AObj.ren, gname]), (by simp [AV.ren, AV.rens, AObj.ren, gname]), trivial⟩ (by simp [AV.low, AV.lows, AObj.low]) (by simp [AV.low, AV.lows, AObj.low]) (by kernel_rfl) (by simp [AV.ren, AV.rens, AObj.ren, gname, putBack]) (by simp [AV.ren, AV.rens, AObj.ren, gname, putBack]) (by simp [AV.ren, AV.rens, AObj.ren, gname, putBack]))) ?_
    refine zO (jC Go.Proofs.Try.func51 (Fn_in (L := [.cells [(.gr 1 (l75 v6).length), (.map 2)], .row false 76 2 (l75 v6), .map (mE e75 e2 v7)]) (args' := [(.ptr 0 0), (.sl (l2 v11))]) (res' := (aI v12)) (L'' := [.cells [(.gr 1 (l75 v13).length), (.map 2)], .row false 76 2 (l75 v13), .map (mE e75 e2 v14)]) [0, 1, 2] (F51_ok k2 v11 v6 v7 v12 v13 v14 h6) rfl (by decide) ⟨(by simp [AV.ren, AV.rens, AObj.ren, gname]), (by simp [AV.ren, AV.rens, AObj.ren, gname]), (by simp [AV.ren, AV.rens, AObj.ren, gname]), trivial⟩ (by simp [AV.low, AV.lows, AObj.low]) (by simp [AV.low, AV.lows, AObj.low]) (by kernel_rfl) (by simp [AV.ren, AV.rens, AObj.ren, gname, putBack]) (by simp [AV.ren, AV.rens, AObj.ren, gname, putBack]) (by simp [AV.ren, AV.rens, AObj.ren, gname, putBack]))) ?_
    refine ze hT 1 [6] [(6, (aI v12))] ?_
    refine AE_seqN ?_
    refine AE_ret ?_
    refine zK [6] [(6, (aI v12))] ?_
    simp only [Option.some.injEq, Prod.mk.injEq] at h
    obtain ⟨rfl, rfl, rfl⟩ := h
    exact zEnd

def F62_l0 : Nat → (List Int) → (List Int) → Int → Int → (List T75) → (List (T75 × Int)) → (List Int) → Option ((List Int) × Int × (List T75) × (List (T75 × Int)))
  | 0, _, _, _, _, _, _, _ => none
  | k1 + 1, v1, v2, v6, v7, v8, v9, v10 =>
    (bif (decide (v7 < ((l2 v1).length : Int))) then
      ((idx v1 v7).bind fun v11 =>
        ((idx v2 v7).bind fun v12 =>
          ((F74 k1 v11 v12 v8 v9).bind fun ⟨v13, v14, v15⟩ =>
            ((F74 k1 v13 v6 v14 v15).bind fun ⟨v16, v17, v18⟩ =>
              ((appL 8 v10 [v16]).bind fun v19 =>
                ((idx v1 v7).bind fun v20 =>
                  ((idx v2 v7).bind fun v21 =>
                    ((F65 k1 v20 v21 v17 v18).bind fun ⟨v22, v23, v24⟩ =>
                      ((F65 k1 v13 v6 v23 v24).bind fun ⟨v25, v26, v27⟩ =>
                        ((F72 k1 v22 v25 v26 v27).bind fun ⟨v28, v29, v30⟩ =>
                          F62_l0 k1 v1 v2 v28 (IntKind.wrap .i64 (v7 + 1)) v29 v30 v19))))))))))
    else
      some (v10, v6, v8, v9))

def F62 (k : Nat) (v1 : (List Int)) (v2 : (List Int)) (v3 : Int) (v4 : (List T75)) (v5 : (List (T75 × Int))) : Option ((List Int) × Int × (List T75) × (List (T75 × Int))) :=
  F62_l0 k v1 v2 v3 0 v4 v5 []

theorem F62_ok (k : Nat) : ∀ (v1 : (List Int)) (v2 : (List Int)) (v3 : Int) (v4 : (List T75)) (v5 : (List (T75 × Int))) (r1 : (List Int)) (r2 : Int) (r3 : (List T75)) (r4 : (List (T75 × Int))), F62 k v1 v2 v3 v4 v5 = some (r1, r2, r3, r4) → Fn prog 62 [(.ptr 0 0), (.sl (l2 v1)), (.sl (l2 v2)), (aI v3)] [.cells [(.gr 1 (l75 v4).length), (.map 2)], .row false 76 2 (l75 v4), .map (mE e75 e2 v5)] (.tup [(.sl (l2 r1)), (aI r2)]) [.cells [(.gr 1 (l75 r3).length), (.map 2)], .row false 76 2 (l75 r3), .map (mE e75 e2 r4)] := by
  intro v1 v2 v3 v4 v5 r1 r2 r3 r4 h
  rw [F62] at h
  refine Fn_bodyK hT Go.Proofs.Try.func62 (c := Go.Proofs.Try.f62.body.getD .skip) (by kernel_rfl) (by kernel_rfl) (by kernel_rfl) ?_
  refine zs hT [0, 1, 2, 3] [(0, (.ptr 0 0)), (1, (.sl (l2 v1))), (2, (.sl (l2 v2))), (3, (aI v3))] ?_
  refine zs hT [0, 1, 2, 3, 10] [(0, (.ptr 0 0)), (1, (.sl (l2 v1))), (2, (.sl (l2 v2))), (3, (aI v3)), (10, .nil)] ?_
  refine AW_seq ?_
  refine zs hT [0, 1, 2, 3, 10, 14, 15] [(0, (.ptr 0 0)), (1, (.sl (l2 v1))), (2, (.sl (l2 v2))), (3, (aI v3)), (10, .nil), (14, (aI ((l2 v1).length : Int))), (15, (aI 0))] ?_
  refine AW_block ?_
  refine zKw [0, 1, 2, 3, 10, 14, 15] [(0, (.ptr 0 0)), (1, (.sl (l2 v1))), (2, (.sl (l2 v2))), (3, (aI v3)), (10, .nil), (14, (aI ((l2 v1).length : Int))), (15, (aI 0))] ?_
  refine AW_gh (Gh.row false 3 1 (xs := l2 []) rfl (by kernel_rfl) (L' := [.cells [(.gr 1 (l75 v4).length), (.map 2)], .row false 76 2 (l75 v4), .map (mE e75 e2 v5), .row false 3 1 (l2 [])]) (by kernel_rfl)) ?_
  refine AW_weak (env' := [(0, (.ptr 0 0)), (1, (.sl (l2 v1))), (2, (.sl (l2 v2))), (3, (aI v3)), (10, (.gr 3 (l2 []).length)), (14, (aI ((l2 v1).length : Int))), (15, (aI 0))]) (Sub.keep (by kernel_rfl) (Sub.keep (by kernel_rfl) (Sub.keep (by kernel_rfl) (Sub.keep (by kernel_rfl) (Sub.cons (by have e : aget [(0, (.ptr 0 0)), (1, (.sl (l2 v1))), (2, (.sl (l2 v2))), (3, (aI v3)), (10, .nil), (14, (aI ((l2 v1).length : Int))), (15, (aI 0))] 10 = .nil := (by kernel_rfl); rw [e]; exact (Weak.void (mu := false) (e := 3) (k := 1) (xs := l2 []) (by kernel_rfl) rfl rfl)) (Sub.keep (by kernel_rfl) (Sub.keep (by kernel_rfl) Sub.nil))))))) ?_
  refine AW_loop (fun n env L => n ≤ k ∧ ∃ (v6 : Int) (v7 : Int) (v8 : (List T75)) (v9 : (List (T75 × Int))) (v10 : (List Int)), env = [(0, (.ptr 0 0)), (1, (.sl (l2 v1))), (2, (.sl (l2 v2))), (3, (aI v6)), (10, (.gr 3 (l2 v10).length)), (14, (aI ((l2 v1).length : Int))), (15, (aI v7))] ∧ L = [.cells [(.gr 1 (l75 v8).length), (.map 2)], .row false 76 2 (l75 v8), .map (mE e75 e2 v9), .row false 3 1 (l2 v10)] ∧ F62_l0 n v1 v2 v6 v7 v8 v9 v10 = some (r1, r2, r3, r4)) k ⟨Nat.le_refl _, v3, 0, v4, v5, [], rfl, rfl, h⟩ ?_
  rintro n _ _ ⟨hn, v6, v7, v8, v9, v10, rfl, rfl, h⟩
  cases n with
  | zero => rw [F62_l0] at h; cases h
  | succ k1 =>
    rw [F62_l0] at h
    refine zs hT [0, 1, 2, 3, 10, 14, 15, 16] [(0, (.ptr 0 0)), (1, (.sl (l2 v1))), (2, (.sl (l2 v2))), (3, (aI v6)), (10, (.gr 3 (l2 v10).length)), (14, (aI ((l2 v1).length : Int))), (15, (aI v7)), (16, (.bool (decide (v7 < ((l2 v1).length : Int)))))] ?_
    refine AW_seq ?_
    rcases bif_split h with ⟨h3, h⟩ | ⟨h3, h⟩
    · refine zT h3 ?_
      refine AE_skip ?_
      refine AE_seqN ?_
      refine AW_seq ?_
      refine AW_block ?_
      refine zs hT [0, 1, 2, 3, 10, 11, 14, 15] [(0, (.ptr 0 0)), (1, (.sl (l2 v1))), (2, (.sl (l2 v2))), (3, (aI v6)), (10, (.gr 3 (l2 v10).length)), (11, (aI v7)), (14, (aI ((l2 v1).length : Int))), (15, (aI v7))] ?_
      refine AW_seq ?_
      obtain ⟨v11, h4, h⟩ := bsm h
      try dsimp only at h
      obtain ⟨v12, h5, h⟩ := bsm h
      try dsimp only at h
      obtain ⟨⟨v13, v14, v15⟩, h6, h⟩ := bsm h
      try dsimp only at h
      refine AW_drx hmix [⟨(.ptr 0 0), [], 0, 0, false⟩, ⟨(.sl (l2 v1)), [], 0, 0, false⟩, ⟨(aI v7), [], 0, 0, false⟩, ⟨(.rp [(aI v11)]), [1, 2], 0, 0, false⟩, ⟨(aI v11), [1, 2, 3], 0, 0, false⟩, ⟨(.sl (l2 v2)), [], 0, 0, false⟩, ⟨(aI v7), [], 0, 0, false⟩, ⟨(.rp [(aI v12)]), [5, 6], 0, 0, false⟩, ⟨(aI v12), [5, 6, 7], 0, 0, false⟩, ⟨(aI v13), [0, 1, 2, 3, 4, 5, 6, 7, 8], 0, 0, true⟩, ⟨(aI v13), [0, 1, 2, 3, 4, 5, 6, 7, 8, 9], 1, 1, false⟩] [9] (fun p => match p with | 0 => [.cells [(.gr 1 (l75 v8).length), (.map 2)], .row false 76 2 (l75 v8), .map (mE e75 e2 v9), .row false 3 1 (l2 v10)] | _ => [.cells [(.gr 1 (l75 v14).length), (.map 2)], .row false 76 2 (l75 v14), .map (mE e75 e2 v15), .row false 3 1 (l2 v10)]) [0, 1, 2, 3, 10, 11, 12, 14, 15] [(0, (.ptr 0 0)), (1, (.sl (l2 v1))), (2, (.sl (l2 v2))), (3, (aI v6)), (10, (.gr 3 (l2 v10).length)), (11, (aI v7)), (12, (aI v13)), (14, (aI ((l2 v1).length : Int))), (15, (aI v7))] [.cells [(.gr 1 (l75 v14).length), (.map 2)], .row false 76 2 (l75 v14), .map (mE e75 e2 v15), .row false 3 1 (l2 v10)] (by kernel_rfl) rfl rfl (by kernel_rfl) ?_ ?_
      · refine SA_plain hT 3 (by kernel_rfl) ?_
        refine SA_tell (v := (.rp [(aI v11)])) (by kernel_rfl) (by kernel_rfl) (by kernel_rfl) (fun L => (jX hT 1 (i2 h4))) ?_
        refine SA_plain hT 3 (by kernel_rfl) ?_
        refine SA_tell (v := (.rp [(aI v12)])) (by kernel_rfl) (by kernel_rfl) (by kernel_rfl) (fun L => (jX hT 1 (i2 h5))) ?_
        refine SA_plain hT 1 (by kernel_rfl) ?_
        refine SA_at 0 (v := (aI v13)) (Lp := [.cells [(.gr 1 (l75 v8).length), (.map 2)], .row false 76 2 (l75 v8), .map (mE e75 e2 v9), .row false 3 1 (l2 v10)]) (Lq := [.cells [(.gr 1 (l75 v14).length), (.map 2)], .row false 76 2 (l75 v14), .map (mE e75 e2 v15), .row false 3 1 (l2 v10)]) (by kernel_rfl) (by kernel_rfl) (by kernel_rfl) (by kernel_rfl) (by kernel_rfl) (by kernel_rfl) (jC Go.Proofs.Try.func74 (Fn_in (L := [.cells [(.gr 1 (l75 v8).length), (.map 2)], .row false 76 2 (l75 v8), .map (mE e75 e2 v9), .row false 3 1 (l2 v10)]) (args' := [(.ptr 0 0), (aI v11), (aI v12)]) (res' := (aI v13)) (L'' := [.cells [(.gr 1 (l75 v14).length), (.map 2)], .row false 76 2 (l75 v14), .map (mE e75 e2 v15), .row false 3 1 (l2 v10)]) [0, 1, 2] (F74_ok k1 v11 v12 v8 v9 v13 v14 v15 h6) rfl (by decide) ⟨(by simp [AV.ren, AV.rens, AObj.ren, gname]), (by simp [AV.ren, AV.rens, AObj.ren, gname]), (by simp [AV.ren, AV.rens, AObj.ren, gname]), trivial⟩ (by simp [AV.low, AV.lows, AObj.low]) (by simp [AV.low, AV.lows, AObj.low]) (by kernel_rfl) (by simp [AV.ren, AV.rens, AObj.ren, gname, putBack]) (by simp [AV.ren, AV.rens, AObj.ren, gname, putBack]) (by simp [AV.ren, AV.rens, AObj.ren, gname, putBack]))) ?_
        refine SA_plain hT 1 (by kernel_rfl) ?_
        exact SA_end (by kernel_rfl)
      refine AE_seqN ?_
      refine AW_seq ?_
      obtain ⟨⟨v16, v17, v18⟩, h7, h⟩ := bsm h
      try dsimp only at h
      obtain ⟨v19, h8, h⟩ := bsm h
      try dsimp only at h
      refine AW_reg ?_
      refine zm hT 4 [0, 1, 2, 3, 10, 11, 12, 14, 15, 28, 29, 30, 31] [(0, (.ptr 0 0)), (1, (.sl (l2 v1))), (2, (.sl (l2 v2))), (3, (aI v6)), (10, (.gr 3 (l2 v10).length)), (11, (aI v7)), (12, (aI v13)), (14, (aI ((l2 v1).length : Int))), (15, (aI v7)), (28, (.gr 3 (l2 v10).length)), (29, (.ptr 0 0)), (30, (aI v13)), (31, (aI v6))] ?_
      refine zO (jC Go.Proofs.Try.func74 (Fn_in (L := [.cells [(.gr 1 (l75 v14).length), (.map 2)], .row false 76 2 (l75 v14), .map (mE e75 e2 v15), .row false 3 1 (l2 v10)]) (args' := [(.ptr 0 0), (aI v13), (aI v6)]) (res' := (aI v16)) (L'' := [.cells [(.gr 1 (l75 v17).length), (.map 2)], .row false 76 2 (l75 v17), .map (mE e75 e2 v18), .row false 3 1 (l2 v10)]) [0, 1, 2] (F74_ok k1 v13 v6 v14 v15 v16 v17 v18 h7) rfl (by decide) ⟨(by simp [AV.ren, AV.rens, AObj.ren, gname]), (by simp [AV.ren, AV.rens, AObj.ren, gname]), (by simp [AV.ren, AV.rens, AObj.ren, gname]), trivial⟩ (by simp [AV.low, AV.lows, AObj.low]) (by simp [AV.low, AV.lows, AObj.low]) (by kernel_rfl) (by simp [AV.ren, AV.rens, AObj.ren, gname, putBack]) (by simp [AV.ren, AV.rens, AObj.ren, gname, putBack]) (by simp [AV.ren, AV.rens, AObj.ren, gname, putBack]))) ?_
      refine zO (jL hT 3 1 [(aI v16)] 4) ?_
      refine zO (jA hT l2_map e2_k e2_one [.cells [(.gr 1 (l75 v17).length), (.map 2)], .row false 76 2 (l75 v17), .map (mE e75 e2 v18), .row false 3 1 (l2 v19)] false 3 (.gr 3 (l2 v10).length) (.sl (l2 [v16])) 3 (l2 v10).length Weak.refl rfl Weak.refl h8) ?_
      refine ze hT 1 [0, 1, 2, 3, 10, 11, 12, 14, 15] [(0, (.ptr 0 0)), (1, (.sl (l2 v1))), (2, (.sl (l2 v2))), (3, (aI v6)), (10, (.gr 3 (l2 v19).length)), (11, (aI v7)), (12, (aI v13)), (14, (aI ((l2 v1).length : Int))), (15, (aI v7))] ?_
      refine AE_seqN ?_
      obtain ⟨v20, h9, h⟩ := bsm h
      try dsimp only at h
      obtain ⟨v21, h10, h⟩ := bsm h
      try dsimp only at h
      obtain ⟨⟨v22, v23, v24⟩, h11, h⟩ := bsm h
      try dsimp only at h
      obtain ⟨⟨v25, v26, v27⟩, h12, h⟩ := bsm h
      try dsimp only at h
      obtain ⟨⟨v28, v29, v30⟩, h13, h⟩ := bsm h
      try dsimp only at h
      refine AW_drx hmix [⟨(.ptr 0 0), [], 0, 2, false⟩, ⟨(.ptr 0 0), [], 0, 0, false⟩, ⟨(.sl (l2 v1)), [], 0, 0, false⟩, ⟨(aI v7), [], 0, 0, false⟩, ⟨(.rp [(aI v20)]), [2, 3], 0, 0, false⟩, ⟨(aI v20), [2, 3, 4], 0, 0, false⟩, ⟨(.sl (l2 v2)), [], 0, 0, false⟩, ⟨(aI v7), [], 0, 0, false⟩, ⟨(.rp [(aI v21)]), [6, 7], 0, 0, false⟩, ⟨(aI v21), [6, 7, 8], 0, 0, false⟩, ⟨(aI v22), [1, 2, 3, 4, 5, 6, 7, 8, 9], 0, 0, true⟩, ⟨(.ptr 0 0), [], 0, 1, false⟩, ⟨(aI v13), [], 0, 1, false⟩, ⟨(aI v6), [], 0, 1, false⟩, ⟨(aI v25), [1, 2, 3, 4, 5, 6, 7, 8, 9, 10, 11, 12, 13], 1, 1, true⟩, ⟨(aI v28), [0, 1, 2, 3, 4, 5, 6, 7, 8, 9, 10, 11, 12, 13, 14], 2, 2, true⟩, ⟨(aI v28), [0, 1, 2, 3, 4, 5, 6, 7, 8, 9, 10, 11, 12, 13, 14, 15], 3, 3, false⟩] [10, 14, 15] (fun p => match p with | 0 => [.cells [(.gr 1 (l75 v17).length), (.map 2)], .row false 76 2 (l75 v17), .map (mE e75 e2 v18), .row false 3 1 (l2 v19)] | 1 => [.cells [(.gr 1 (l75 v23).length), (.map 2)], .row false 76 2 (l75 v23), .map (mE e75 e2 v24), .row false 3 1 (l2 v19)] | 2 => [.cells [(.gr 1 (l75 v26).length), (.map 2)], .row false 76 2 (l75 v26), .map (mE e75 e2 v27), .row false 3 1 (l2 v19)] | _ => [.cells [(.gr 1 (l75 v29).length), (.map 2)], .row false 76 2 (l75 v29), .map (mE e75 e2 v30), .row false 3 1 (l2 v19)]) [0, 1, 2, 3, 10, 14, 15] [(0, (.ptr 0 0)), (1, (.sl (l2 v1))), (2, (.sl (l2 v2))), (3, (aI v28)), (10, (.gr 3 (l2 v19).length)), (14, (aI ((l2 v1).length : Int))), (15, (aI v7))] [.cells [(.gr 1 (l75 v29).length), (.map 2)], .row false 76 2 (l75 v29), .map (mE e75 e2 v30), .row false 3 1 (l2 v19)] (by kernel_rfl) rfl rfl (by kernel_rfl) ?_ ?_
      · refine SA_plain hT 4 (by kernel_rfl) ?_
        refine SA_tell (v := (.rp [(aI v20)])) (by kernel_rfl) (by kernel_rfl) (by kernel_rfl) (fun L => (jX hT 1 (i2 h9))) ?_
        refine SA_plain hT 3 (by kernel_rfl) ?_
        refine SA_tell (v := (.rp [(aI v21)])) (by kernel_rfl) (by kernel_rfl) (by kernel_rfl) (fun L => (jX hT 1 (i2 h10))) ?_
        refine SA_plain hT 1 (by kernel_rfl) ?_
        refine SA_at 0 (v := (aI v22)) (Lp := [.cells [(.gr 1 (l75 v17).length), (.map 2)], .row false 76 2 (l75 v17), .map (mE e75 e2 v18), .row false 3 1 (l2 v19)]) (Lq := [.cells [(.gr 1 (l75 v23).length), (.map 2)], .row false 76 2 (l75 v23), .map (mE e75 e2 v24), .row false 3 1 (l2 v19)]) (by kernel_rfl) (by kernel_rfl) (by kernel_rfl) (by kernel_rfl) (by kernel_rfl) (by kernel_rfl) (jC Go.Proofs.Try.func65 (Fn_in (L := [.cells [(.gr 1 (l75 v17).length), (.map 2)], .row false 76 2 (l75 v17), .map (mE e75 e2 v18), .row false 3 1 (l2 v19)]) (args' := [(.ptr 0 0), (aI v20), (aI v21)]) (res' := (aI v22)) (L'' := [.cells [(.gr 1 (l75 v23).length), (.map 2)], .row false 76 2 (l75 v23), .map (mE e75 e2 v24), .row false 3 1 (l2 v19)]) [0, 1, 2] (F65_ok k1 v20 v21 v17 v18 v22 v23 v24 h11) rfl (by decide) ⟨(by simp [AV.ren, AV.rens, AObj.ren, gname]), (by simp [AV.ren, AV.rens, AObj.ren, gname]), (by simp [AV.ren, AV.rens, AObj.ren, gname]), trivial⟩ (by simp [AV.low, AV.lows, AObj.low]) (by simp [AV.low, AV.lows, AObj.low]) (by kernel_rfl) (by simp [AV.ren, AV.rens, AObj.ren, gname, putBack]) (by simp [AV.ren, AV.rens, AObj.ren, gname, putBack]) (by simp [AV.ren, AV.rens, AObj.ren, gname, putBack]))) ?_
        refine SA_plain hT 3 (by kernel_rfl) ?_
        refine SA_at 1 (v := (aI v25)) (Lp := [.cells [(.gr 1 (l75 v23).length), (.map 2)], .row false 76 2 (l75 v23), .map (mE e75 e2 v24), .row false 3 1 (l2 v19)]) (Lq := [.cells [(.gr 1 (l75 v26).length), (.map 2)], .row false 76 2 (l75 v26), .map (mE e75 e2 v27), .row false 3 1 (l2 v19)]) (by kernel_rfl) (by kernel_rfl) (by kernel_rfl) (by kernel_rfl) (by kernel_rfl) (by kernel_rfl) (jC Go.Proofs.Try.func65 (Fn_in (L := [.cells [(.gr 1 (l75 v23).length), (.map 2)], .row false 76 2 (l75 v23), .map (mE e75 e2 v24), .row false 3 1 (l2 v19)]) (args' := [(.ptr 0 0), (aI v13), (aI v6)]) (res' := (aI v25)) (L'' := [.cells [(.gr 1 (l75 v26).length), (.map 2)], .row false 76 2 (l75 v26), .map (mE e75 e2 v27), .row false 3 1 (l2 v19)]) [0, 1, 2] (F65_ok k1 v13 v6 v23 v24 v25 v26 v27 h12) rfl (by decide) ⟨(by simp [AV.ren, AV.rens, AObj.ren, gname]), (by simp [AV.ren, AV.rens, AObj.ren, gname]), (by simp [AV.ren, AV.rens, AObj.ren, gname]), trivial⟩ (by simp [AV.low, AV.lows, AObj.low]) (by simp [AV.low, AV.lows, AObj.low]) (by kernel_rfl) (by simp [AV.ren, AV.rens, AObj.ren, gname, putBack]) (by simp [AV.ren, AV.rens, AObj.ren, gname, putBack]) (by simp [AV.ren, AV.rens, AObj.ren, gname, putBack]))) ?_
        refine SA_at 2 (v := (aI v28)) (Lp := [.cells [(.gr 1 (l75 v26).length), (.map 2)], .row false 76 2 (l75 v26), .map (mE e75 e2 v27), .row false 3 1 (l2 v19)]) (Lq := [.cells [(.gr 1 (l75 v29).length), (.map 2)], .row false 76 2 (l75 v29), .map (mE e75 e2 v30), .row false 3 1 (l2 v19)]) (by kernel_rfl) (by kernel_rfl) (by kernel_rfl) (by kernel_rfl) (by kernel_rfl) (by kernel_rfl) (jC Go.Proofs.Try.func72 (Fn_in (L := [.cells [(.gr 1 (l75 v26).length), (.map 2)], .row false 76 2 (l75 v26), .map (mE e75 e2 v27), .row false 3 1 (l2 v19)]) (args' := [(.ptr 0 0), (aI v22), (aI v25)]) (res' := (aI v28)) (L'' := [.cells [(.gr 1 (l75 v29).length), (.map 2)], .row false 76 2 (l75 v29), .map (mE e75 e2 v30), .row false 3 1 (l2 v19)]) [0, 1, 2] (F72_ok k1 v22 v25 v26 v27 v28 v29 v30 h13) rfl (by decide) ⟨(by simp [AV.ren, AV.rens, AObj.ren, gname]), (by simp [AV.ren, AV.rens, AObj.ren, gname]), (by simp [AV.ren, AV.rens, AObj.ren, gname]), trivial⟩ (by simp [AV.low, AV.lows, AObj.low]) (by simp [AV.low, AV.lows, AObj.low]) (by kernel_rfl) (by simp [AV.ren, AV.rens, AObj.ren, gname, putBack]) (by simp [AV.ren, AV.rens, AObj.ren, gname, putBack]) (by simp [AV.ren, AV.rens, AObj.ren, gname, putBack]))) ?_
        refine SA_plain hT 1 (by kernel_rfl) ?_
        exact SA_end (by kernel_rfl)
      refine AE_blkN ?_
      refine AE_seqN ?_
      refine zr hT [0, 1, 2, 3, 10, 14, 15] [(0, (.ptr 0 0)), (1, (.sl (l2 v1))), (2, (.sl (l2 v2))), (3, (aI v28)), (10, (.gr 3 (l2 v19).length)), (14, (aI ((l2 v1).length : Int))), (15, (aI (IntKind.wrap .i64 (v7 + 1))))] ?_
      refine zK [0, 1, 2, 3, 10, 14, 15] [(0, (.ptr 0 0)), (1, (.sl (l2 v1))), (2, (.sl (l2 v2))), (3, (aI v28)), (10, (.gr 3 (l2 v19).length)), (14, (aI ((l2 v1).length : Int))), (15, (aI (IntKind.wrap .i64 (v7 + 1))))] ?_
      exact AE_done ⟨k1, by omega, by omega, v28, (IntKind.wrap .i64 (v7 + 1)), v29, v30, v19, rfl, rfl, h⟩
    · refine zN h3 ?_
      refine AE_exit ?_
      refine AE_seqX ?_
      refine AE_seqX ?_
      refine AE_blkH ?_
      refine AE_seqN ?_
      refine zs hT [8, 9] [(8, (.gr 3 (l2 v10).length)), (9, (aI v6))] ?_
      refine AE_ret ?_
      refine zK [8, 9] [(8, (.gr 3 (l2 v10).length)), (9, (aI v6))] ?_
      refine AE_weak (env' := [(8, (.sl (l2 v10))), (9, (aI v6))]) (Sub.cons (by have e : aget [(8, (.gr 3 (l2 v10).length)), (9, (aI v6))] 8 = (.gr 3 (l2 v10).length) := (by kernel_rfl); rw [e]; exact (Weak.view (e := 3) (k := 1) (xs := l2 v10) (by kernel_rfl) rfl)) (Sub.keep (by kernel_rfl) Sub.nil)) ?_
      simp only [Option.some.injEq, Prod.mk.injEq] at h
      obtain ⟨rfl, rfl, rfl, rfl⟩ := h
      exact zEnd

def F63_l0 : Nat → (List Int) → Int → (List Int) → Option ((List Int))
  | 0, _, _, _ => none
  | k1 + 1, v1, v2, v3 =>
    (bif (decide (v2 < ((l2 v1).length : Int))) then
      ((idx v1 v2).bind fun v4 =>
        ((appL 8 v3 [(bits .xor .i64 v4 1)]).bind fun v5 =>
          F63_l0 k1 v1 (IntKind.wrap .i64 (v2 + 1)) v5))
    else
      some (v3))

def F63 (k : Nat) (v1 : (List Int)) : Option ((List Int)) :=
  F63_l0 k v1 0 []

theorem F63_ok (k : Nat) : ∀ (v1 : (List Int)) (r1 : (List Int)), F63 k v1 = some (r1) → Fn prog 63 [(.sl (l2 v1))] [] (.sl (l2 r1)) [] := by
  intro v1 r1 h
  rw [F63] at h
  refine Fn_bodyK hT Go.Proofs.Try.func63 (c := Go.Proofs.Try.f63.body.getD .skip) (by kernel_rfl) (by kernel_rfl) (by kernel_rfl) ?_
  refine zs hT [0] [(0, (.sl (l2 v1)))] ?_
  refine zs hT [0, 3] [(0, (.sl (l2 v1))), (3, .nil)] ?_
  refine AW_seq ?_
  refine zs hT [3, 6, 7, 8] [(3, .nil), (6, (.sl (l2 v1))), (7, (aI ((l2 v1).length : Int))), (8, (aI 0))] ?_
  refine AW_block ?_
  refine zKw [3, 6, 7, 8] [(3, .nil), (6, (.sl (l2 v1))), (7, (aI ((l2 v1).length : Int))), (8, (aI 0))] ?_
  refine AW_gh (Gh.row false 3 1 (xs := l2 []) rfl (by kernel_rfl) (L' := [.row false 3 1 (l2 [])]) (by kernel_rfl)) ?_
  refine AW_weak (env' := [(3, (.gr 0 (l2 []).length)), (6, (.sl (l2 v1))), (7, (aI ((l2 v1).length : Int))), (8, (aI 0))]) (Sub.cons (by have e : aget [(3, .nil), (6, (.sl (l2 v1))), (7, (aI ((l2 v1).length : Int))), (8, (aI 0))] 3 = .nil := (by kernel_rfl); rw [e]; exact (Weak.void (mu := false) (e := 3) (k := 1) (xs := l2 []) (by kernel_rfl) rfl rfl)) (Sub.keep (by kernel_rfl) (Sub.keep (by kernel_rfl) (Sub.keep (by kernel_rfl) Sub.nil)))) ?_
  refine AW_loop (fun n env L => n ≤ k ∧ ∃ (v2 : Int) (v3 : (List Int)), env = [(3, (.gr 0 (l2 v3).length)), (6, (.sl (l2 v1))), (7, (aI ((l2 v1).length : Int))), (8, (aI v2))] ∧ L = [.row false 3 1 (l2 v3)] ∧ F63_l0 n v1 v2 v3 = some (r1)) k ⟨Nat.le_refl _, 0, [], rfl, rfl, h⟩ ?_
  rintro n _ _ ⟨hn, v2, v3, rfl, rfl, h⟩
  cases n with
  | zero => rw [F63_l0] at h; cases h
  | succ k1 =>
    rw [F63_l0] at h
    refine zs hT [3, 6, 7, 8, 9] [(3, (.gr 0 (l2 v3).length)), (6, (.sl (l2 v1))), (7, (aI ((l2 v1).length : Int))), (8, (aI v2)), (9, (.bool (decide (v2 < ((l2 v1).length : Int)))))] ?_
    refine AW_seq ?_
    rcases bif_split h with ⟨h3, h⟩ | ⟨h3, h⟩
    · refine zT h3 ?_
      refine AE_skip ?_
      refine AE_seqN ?_
      refine AW_seq ?_
      refine AW_block ?_
      refine AW_seq ?_
      obtain ⟨v4, h4, h⟩ := bsm h
      try dsimp only at h
      refine AW_reg ?_
      refine zO (jX hT 1 (i2 h4)) ?_
      refine ze hT 2 [3, 5, 6, 7, 8] [(3, (.gr 0 (l2 v3).length)), (5, (aI v4)), (6, (.sl (l2 v1))), (7, (aI ((l2 v1).length : Int))), (8, (aI v2))] ?_
      refine AE_seqN ?_
      obtain ⟨v5, h5, h⟩ := bsm h
      try dsimp only at h
      refine AW_reg ?_
      refine zm hT 3 [3, 6, 7, 8, 12, 14] [(3, (.gr 0 (l2 v3).length)), (6, (.sl (l2 v1))), (7, (aI ((l2 v1).length : Int))), (8, (aI v2)), (12, (.gr 0 (l2 v3).length)), (14, (aI (bits .xor .i64 v4 1)))] ?_
      refine zO (jL hT 3 1 [(aI (bits .xor .i64 v4 1))] 1) ?_
      refine zO (jA hT l2_map e2_k e2_one [.row false 3 1 (l2 v5)] false 3 (.gr 0 (l2 v3).length) (.sl (l2 [(bits .xor .i64 v4 1)])) 0 (l2 v3).length Weak.refl rfl Weak.refl h5) ?_
      refine ze hT 1 [3, 6, 7, 8] [(3, (.gr 0 (l2 v5).length)), (6, (.sl (l2 v1))), (7, (aI ((l2 v1).length : Int))), (8, (aI v2))] ?_
      refine AE_blkN ?_
      refine AE_seqN ?_
      refine zr hT [3, 6, 7, 8] [(3, (.gr 0 (l2 v5).length)), (6, (.sl (l2 v1))), (7, (aI ((l2 v1).length : Int))), (8, (aI (IntKind.wrap .i64 (v2 + 1))))] ?_
      refine zK [3, 6, 7, 8] [(3, (.gr 0 (l2 v5).length)), (6, (.sl (l2 v1))), (7, (aI ((l2 v1).length : Int))), (8, (aI (IntKind.wrap .i64 (v2 + 1))))] ?_
      exact AE_done ⟨k1, by omega, by omega, (IntKind.wrap .i64 (v2 + 1)), v5, rfl, rfl, h⟩
    · refine zN h3 ?_
      refine AE_exit ?_
      refine AE_seqX ?_
      refine AE_seqX ?_
      refine AE_blkH ?_
      refine AE_seqN ?_
      refine zs hT [2] [(2, (.gr 0 (l2 v3).length))] ?_
      refine AE_ret ?_
      refine zK [2] [(2, (.gr 0 (l2 v3).length))] ?_
      refine AE_weak (env' := [(2, (.sl (l2 v3)))]) (Sub.cons (by have e : aget [(2, (.gr 0 (l2 v3).length))] 2 = (.gr 0 (l2 v3).length) := (by kernel_rfl); rw [e]; exact (Weak.view (e := 3) (k := 1) (xs := l2 v3) (by kernel_rfl) rfl)) Sub.nil) ?_
      simp only [Option.some.injEq] at h
      subst h
      exact zEnd

def F54 (k : Nat) (v1 : (List Int)) (v2 : (List Int)) (v3 : (List T75)) (v4 : (List (T75 × Int))) : Option (Int × (List T75) × (List (T75 × Int))) :=
  ((F63 k v2).bind fun v5 =>
    ((F62 k v1 v5 1 v3 v4).bind fun ⟨v6, v7, v8, v9⟩ =>
      (bif (v7 == (-1)) then
        some ((-1), v8, v9)
      else
        some ((bits .xor .i64 v7 1), v8, v9))))

theorem F54_ok (k : Nat) : ∀ (v1 : (List Int)) (v2 : (List Int)) (v3 : (List T75)) (v4 : (List (T75 × Int))) (r1 : Int) (r2 : (List T75)) (r3 : (List (T75 × Int))), F54 k v1 v2 v3 v4 = some (r1, r2, r3) → Fn prog 54 [(.ptr 0 0), (.sl (l2 v1)), (.sl (l2 v2))] [.cells [(.gr 1 (l75 v3).length), (.map 2)], .row false 76 2 (l75 v3), .map (mE e75 e2 v4)] (aI r1) [.cells [(.gr 1 (l75 r2).length), (.map 2)], .row false 76 2 (l75 r2), .map (mE e75 e2 r3)] := by
  intro v1 v2 v3 v4 r1 r2 r3 h
  rw [F54] at h
  refine Fn_bodyK hT Go.Proofs.Try.func54 (c := Go.Proofs.Try.f54.body.getD .skip) (by kernel_rfl) (by kernel_rfl) (by kernel_rfl) ?_
  refine zs hT [0, 1, 2] [(0, (.ptr 0 0)), (1, (.sl (l2 v1))), (2, (.sl (l2 v2)))] ?_
  refine AW_seq ?_
  obtain ⟨v5, h1, h⟩ := bsm h
  try dsimp only at h
  obtain ⟨⟨v6, v7, v8, v9⟩, h2, h⟩ := bsm h
  try dsimp only at h
  refine AW_reg ?_
  refine zm hT 3 [10, 11, 12] [(10, (.ptr 0 0)), (11, (.sl (l2 v1))), (12, (.sl (l2 v2)))] ?_
  refine zO (jP Go.Proofs.Try.func63 (F63_ok k v2 v5 h1)) ?_
  refine zO (jC Go.Proofs.Try.func62 (Fn_in (L := [.cells [(.gr 1 (l75 v3).length), (.map 2)], .row false 76 2 (l75 v3), .map (mE e75 e2 v4)]) (args' := [(.ptr 0 0), (.sl (l2 v1)), (.sl (l2 v5)), (aI 1)]) (res' := (.tup [(.sl (l2 v6)), (aI v7)])) (L'' := [.cells [(.gr 1 (l75 v8).length), (.map 2)], .row false 76 2 (l75 v8), .map (mE e75 e2 v9)]) [0, 1, 2] (F62_ok k v1 v5 1 v3 v4 v6 v7 v8 v9 h2) rfl (by decide) ⟨(by simp [AV.ren, AV.rens, AObj.ren, gname]), (by simp [AV.ren, AV.rens, AObj.ren, gname]), (by simp [AV.ren, AV.rens, AObj.ren, gname]), trivial⟩ (by simp [AV.low, AV.lows, AObj.low]) (by simp [AV.low, AV.lows, AObj.low]) (by kernel_rfl) (by simp [AV.ren, AV.rens, AObj.ren, gname, putBack]) (by simp [AV.ren, AV.rens, AObj.ren, gname, putBack]) (by simp [AV.ren, AV.rens, AObj.ren, gname, putBack]))) ?_
  refine ze hT 5 [8] [(8, (aI v7))] ?_
  refine AE_seqN ?_
  refine AW_seq ?_
  refine zs hT [8, 18] [(8, (aI v7)), (18, (.bool (v7 == (-1))))] ?_
  rcases bif_split h with ⟨h3, h⟩ | ⟨h3, h⟩
  · refine zT h3 ?_
    refine zs hT [6] [(6, (aI (-1)))] ?_
    refine AE_ret ?_
    refine AE_seqR ?_
    refine zK [6] [(6, (aI (-1)))] ?_
    simp only [Option.some.injEq, Prod.mk.injEq] at h
    obtain ⟨rfl, rfl, rfl⟩ := h
    exact zEnd
  · refine zN h3 ?_
    refine AE_skip ?_
    refine AE_seqN ?_
    refine zs hT [6] [(6, (aI (bits .xor .i64 v7 1)))] ?_
    refine AE_ret ?_
    refine zK [6] [(6, (aI (bits .xor .i64 v7 1)))] ?_
    simp only [Option.some.injEq, Prod.mk.injEq] at h
    obtain ⟨rfl, rfl, rfl⟩ := h
    exact zEnd

def F13 (k : Nat) (v1 : (List Int)) (v2 : (List Int)) (v3 : (List T75)) (v4 : (List (T75 × Int))) : Option (Int × (List T75) × (List (T75 × Int))) :=
  ((F53 k v1 v2 v3 v4).bind fun v5 =>
    (bif (!v5) then
      some ((-1), v3, v4)
    else
      ((F54 k v1 v2 v3 v4).bind fun ⟨v6, v7, v8⟩ =>
        some (v6, v7, v8))))

theorem F13_ok (k : Nat) : ∀ (v1 : (List Int)) (v2 : (List Int)) (v3 : (List T75)) (v4 : (List (T75 × Int))) (r1 : Int) (r2 : (List T75)) (r3 : (List (T75 × Int))), F13 k v1 v2 v3 v4 = some (r1, r2, r3) → Fn prog 13 [(.ptr 0 0), (.sl (l2 v1)), (.sl (l2 v2))] [.cells [(.gr 1 (l75 v3).length), (.map 2)], .row false 76 2 (l75 v3), .map (mE e75 e2 v4)] (aI r1) [.cells [(.gr 1 (l75 r2).length), (.map 2)], .row false 76 2 (l75 r2), .map (mE e75 e2 r3)] := by
  intro v1 v2 v3 v4 r1 r2 r3 h
  rw [F13] at h
  refine Fn_bodyK hT Go.Proofs.Try.func13 (c := Go.Proofs.Try.f13.body.getD .skip) (by kernel_rfl) (by kernel_rfl) (by kernel_rfl) ?_
  refine zs hT [0, 1, 2] [(0, (.ptr 0 0)), (1, (.sl (l2 v1))), (2, (.sl (l2 v2)))] ?_
  refine AW_seq ?_
  refine AW_seq ?_
  obtain ⟨v5, h1, h⟩ := bsm h
  try dsimp only at h
  refine AW_reg ?_
  refine zm hT 3 [0, 1, 2, 7, 8, 9] [(0, (.ptr 0 0)), (1, (.sl (l2 v1))), (2, (.sl (l2 v2))), (7, (.ptr 0 0)), (8, (.sl (l2 v1))), (9, (.sl (l2 v2)))] ?_
  refine zO (jC Go.Proofs.Try.func53 (Fn_in (L := [.cells [(.gr 1 (l75 v3).length), (.map 2)], .row false 76 2 (l75 v3), .map (mE e75 e2 v4)]) (args' := [(.ptr 0 0), (.sl (l2 v1)), (.sl (l2 v2))]) (res' := (.bool v5)) (L'' := [.cells [(.gr 1 (l75 v3).length), (.map 2)], .row false 76 2 (l75 v3), .map (mE e75 e2 v4)]) [0, 1, 2] (F53_ok k v1 v2 v3 v4 v5 h1) rfl (by decide) ⟨(by simp [AV.ren, AV.rens, AObj.ren, gname]), (by simp [AV.ren, AV.rens, AObj.ren, gname]), (by simp [AV.ren, AV.rens, AObj.ren, gname]), trivial⟩ (by simp [AV.low, AV.lows, AObj.low]) (by simp [AV.low, AV.lows, AObj.low]) (by kernel_rfl) (by simp [AV.ren, AV.rens, AObj.ren, gname, putBack]) (by simp [AV.ren, AV.rens, AObj.ren, gname, putBack]) (by simp [AV.ren, AV.rens, AObj.ren, gname, putBack]))) ?_
  refine ze hT 1 [0, 1, 2, 11] [(0, (.ptr 0 0)), (1, (.sl (l2 v1))), (2, (.sl (l2 v2))), (11, (.bool (!v5)))] ?_
  refine AE_seqN ?_
  rcases bif_split h with ⟨h2, h⟩ | ⟨h2, h⟩
  · refine zT h2 ?_
    refine zs hT [6] [(6, (aI (-1)))] ?_
    refine AE_ret ?_
    refine AE_seqR ?_
    refine zK [6] [(6, (aI (-1)))] ?_
    simp only [Option.some.injEq, Prod.mk.injEq] at h
    obtain ⟨rfl, rfl, rfl⟩ := h
    exact zEnd
  · refine zN h2 ?_
    refine AE_skip ?_
    refine AE_seqN ?_
    refine AW_seq ?_
    obtain ⟨⟨v6, v7, v8⟩, h3, h⟩ := bsm h
    try dsimp only at h
    refine AW_reg ?_
    refine zm hT 3 [12, 13, 14] [(12, (.ptr 0 0)), (13, (.sl (l2 v1))), (14, (.sl (l2 v2)))] ?_
    refine zO (jC Go.Proofs.Try.func54 (Fn_in (L := [.cells [(.gr 1 (l75 v3).length), (.map 2)], .row false 76 2 (l75 v3), .map (mE e75 e2 v4)]) (args' := [(.ptr 0 0), (.sl (l2 v1)), (.sl (l2 v2))]) (res' := (aI v6)) (L'' := [.cells [(.gr 1 (l75 v7).length), (.map 2)], .row false 76 2 (l75 v7), .map (mE e75 e2 v8)]) [0, 1, 2] (F54_ok k v1 v2 v3 v4 v6 v7 v8 h3) rfl (by decide) ⟨(by simp [AV.ren, AV.rens, AObj.ren, gname]), (by simp [AV.ren, AV.rens, AObj.ren, gname]), (by simp [AV.ren, AV.rens, AObj.ren, gname]), trivial⟩ (by simp [AV.low, AV.lows, AObj.low]) (by simp [AV.low, AV.lows, AObj.low]) (by kernel_rfl) (by simp [AV.ren, AV.rens, AObj.ren, gname, putBack]) (by simp [AV.ren, AV.rens, AObj.ren, gname, putBack]) (by simp [AV.ren, AV.rens, AObj.ren, gname, putBack]))) ?_
    refine ze hT 1 [6] [(6, (aI v6))] ?_
    refine AE_seqN ?_
    refine AE_ret ?_
    refine zK [6] [(6, (aI v6))] ?_
    simp only [Option.some.injEq, Prod.mk.injEq] at h
    obtain ⟨rfl, rfl, rfl⟩ := h
    exact zEnd
end Go.Vm
