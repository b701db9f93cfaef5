/- The plain law of TreeChecks, joined. -/
import Derived.Test.YtafpcogpabnjmaaPlK
set_option linter.unusedVariables false
set_option linter.unusedSimpArgs false
set_option linter.unusedSectionVars false
namespace Go.Vm

theorem F13_decls {ps : List T34} {R : Int × Int} (hgo : Ev (fun k => F13_l3 k ps 0 0 0) R) : ∀ (rest : List T76), ws76 rest → ∀ (xs : List T76) (i : Nat), xs.drop i = rest → xs.length ≤ maxLen →
    Ev (fun k => F13_l1 k xs ps (i : Int)) (bif rest.all okD then R else (-1, 0))
  | [], h, xs, i, hd, hl => by
    refine Ev.succ ?_
    simp only [F13_l1, l76_len, ge_dec (drop_end hd), cond_false, List.all_nil, cond_true]
    exact hgo
  | x :: rest, h, xs, i, hd, hl => by
    obtain ⟨q1, q2, q3⟩ := idx_drop hd
    have ih := F13_decls hgo rest h.2 xs (i + 1) q3 hl
    obtain ⟨kd, na, nu, at_⟩ := x
    have hw := h.1
    simp only [w76] at hw
    have bad : Ev (fun k => F13_j2 k xs ps (i : Int) true) (-1, 0) := Ev.succ (by simp only [F13_j2, cond_true]; exact Ev.pure)
    have good : Ev (fun k => F13_j2 k xs ps (i : Int) false) (bif rest.all okD then R else (-1, 0)) := Ev.succ (by simp only [F13_j2, cond_false, wrap_nat q2 hl]; exact ih)
    refine Ev.succ ?_
    simp only [F13_l1, l76_len, lt_dec q2, cond_true, q1, Option.bind_some, List.all_cons, okD]
    have n1 : decide (kd ≥ 1) = !(decide (kd < 1)) := by by_cases g : kd < 1 <;> simp [g] <;> omega
    have n2 : decide (kd ≤ 4) = !(decide (kd > 4)) := by by_cases g : kd > 4 <;> simp [g] <;> omega
    have n3 : decide (nu ≥ 0) = !(decide (nu < 0)) := by by_cases g : nu < 0 <;> simp [g] <;> omega
    have n4 : decide (nu ≤ 65535) = !(decide (nu > 65535)) := by by_cases g : nu > 65535 <;> simp [g] <;> omega
    rw [n1, n2, n3, n4]
    cases decide (kd < 1) with
    | true => exact bad
    | false => cases decide (kd > 4) with
      | true => exact bad
      | false =>
        simp only [cond_false, Bool.not_false, Bool.true_and]
        refine Ev.bind (F38_ev na hw.2.1) ?_
        cases nm na with
        | false => exact bad
        | true => cases decide (nu < 0) with
          | true => exact bad
          | false => cases decide (nu > 65535) with
            | true => exact bad
            | false =>
              simp only [Bool.not_true, Bool.not_false, cond_false, Bool.true_and, bne]
              cases (kd == 3) with
              | false => exact good
              | true => cases (nu == 0) with
                | false => exact bad
                | true => exact good
theorem F13_ev (y : T24) (h : w24 y) : RT (fun k => F13 k y.f0 y.f1 y.f2) (!(headB y.f0 (y.f1.length : Int) (y.f2.length : Int)) && (y.f1.all okD && okP y.f2)) (cP y.f2 : Int) (mP y.f2 : Int) := by
  obtain ⟨w, ds, ps⟩ := y
  simp only [w24] at h
  dsimp only
  have yes : Ev (fun k => F13_j0 k ds ps true) (-1, 0) := by simp only [F13_j0, cond_true]; exact Ev.pure
  have pre : ∀ {R : Int × Int}, (decide ((ps.length : Int) > 6) = false → Ev (fun k => F13_j0 k ds ps false) R) → Ev (fun k => F13 k w ds ps) (bif headB w (ds.length : Int) (ps.length : Int) then (-1, 0) else R) := by
    intro R hR
    simp only [F13, l76_len, l34_len, headB]
    cases decide (w < 0) with
    | true => exact yes
    | false => cases decide (w > 65535) with
      | true => exact yes
      | false => cases decide ((ds.length : Int) > 12) with
        | true => exact yes
        | false => cases decide ((ps.length : Int) < 1) with
          | true => exact yes
          | false => cases h6 : decide ((ps.length : Int) > 6) with
            | true => exact yes
            | false => exact hR h6
  by_cases h6 : (ps.length : Int) > 6
  · have hh : headB w (ds.length : Int) (ps.length : Int) = true := by simp [headB, h6]
    have hp := pre (R := (0, 0)) fun g => by simp [h6] at g
    rw [hh] at hp
    exact RT_bad hp fun g _ _ => by simp [hh] at g
  · obtain ⟨N, M, e1, e2, e3, e4⟩ := F13_ls ps h.2.2.2 ps 0 rfl h.2.2.1 0 0 (by omega) (by omega) (by omega) (by omega)
    rw [Int.zero_add, Int.zero_add] at e2 e3
    have hd := F13_decls e1 ds h.2.1.2 ds 0 rfl h.2.1.1
    have hp := pre (R := bif ds.all okD then (N, M) else (-1, 0)) fun _ => by simp only [F13_j0, cond_false]; exact hd
    cases hh : headB w (ds.length : Int) (ps.length : Int) with
    | true => rw [hh] at hp; exact RT_bad hp fun g _ _ => by simp at g
    | false =>
      rw [hh] at hp
      cases hds : ds.all okD with
      | false => rw [hds] at hp; exact RT_bad hp fun g _ _ => by simp at g
      | true => rw [hds] at hp; exact ⟨N, M, hp, by simpa using e2, by simpa using e3, e4⟩

end Go.Vm
