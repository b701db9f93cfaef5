/- The plain law of TreeChecks. -/
import Derived.Test.YtafpcogpabnjmaaPlJ
set_option linter.unusedVariables false
set_option linter.unusedSimpArgs false
set_option linter.unusedSectionVars false
namespace Go.Vm

/-! ### declarations -/
def okD : T76 → Bool
  | ⟨kd, na, nu, _⟩ => decide (kd ≥ 1) && (decide (kd ≤ 4) && (nm na && (decide (nu ≥ 0) && (decide (nu ≤ 65535) && (!(kd == 3) || (nu == 0))))))
theorem F73_ev (x : T76) (h : w76 x) : Ev (fun k => F73 k x.f0 x.f1 x.f2 x.f3) (!(okD x)) := by
  obtain ⟨kd, na, nu, at_⟩ := x
  simp only [w76] at h
  have key : Ev (fun k => F74 k kd na nu at_) (okD ⟨kd, na, nu, at_⟩) := by
    simp only [F74, okD]
    cases decide (kd ≥ 1) with
    | false => exact Ev.pure
    | true => cases decide (kd ≤ 4) with
      | false => exact Ev.pure
      | true =>
        simp only [cond_true, Bool.true_and]
        refine Ev.bind (F75_ev na h.2.1) ?_
        cases nm na with
        | false => exact Ev.pure
        | true => cases decide (nu ≥ 0) with
          | false => exact Ev.pure
          | true => cases decide (nu ≤ 65535) with
            | false => exact Ev.pure
            | true =>
              simp only [cond_true, Bool.true_and, bne]
              cases (kd == 3) with
              | false => exact Ev.pure
              | true => exact Ev.pure
  simp only [F73]
  exact Ev.bind key Ev.pure
theorem F63_ls : ∀ (rest : List T76), ws76 rest → ∀ (xs : List T76) (i : Nat), xs.drop i = rest → xs.length ≤ maxLen → ∃ j : Int, Ev (fun k => F63_l0 k xs (i : Int)) j ∧ decide (j ≥ 0) = !(rest.all okD)
  | [], h, xs, i, hd, hl => ⟨-1, Ev.succ (by simp only [F63_l0, l76_len, ge_dec (drop_end hd), cond_false]; exact Ev.pure), rfl⟩
  | x :: rest, h, xs, i, hd, hl => by
    obtain ⟨q1, q2, q3⟩ := idx_drop hd
    have hx := F73_ev x h.1
    obtain ⟨j, e1, e2⟩ := F63_ls rest h.2 xs (i + 1) q3 hl
    obtain ⟨a, b, c, d⟩ := x
    dsimp only at hx
    cases ho : okD ⟨a, b, c, d⟩ with
    | true =>
      rw [ho] at hx
      refine ⟨j, Ev.succ ?_, by rw [e2]; simp [ho]⟩
      simp only [F63_l0, l76_len, lt_dec q2, cond_true, q1, Option.bind_some, wrap_nat q2 hl]
      exact Ev.bind hx e1
    | false =>
      rw [ho] at hx
      refine ⟨(i : Int), Ev.succ ?_, by simp [ho]⟩
      simp only [F63_l0, l76_len, lt_dec q2, cond_true, q1, Option.bind_some]
      exact Ev.bind hx Ev.pure
theorem F72_ev (xs : List T76) (h : ws76 xs) (hl : xs.length ≤ maxLen) : Ev (fun k => F72 k xs) (!(xs.all okD)) := by
  obtain ⟨j, e1, e2⟩ := F63_ls xs h xs 0 rfl hl
  rw [← e2]
  simp only [F72, F63]
  exact Ev.bind e1 Ev.pure

/-! ### goroutines -/
def okP : List T34 → Bool
  | [] => true
  | p :: r => nm p.f0 && (okSs p.f1 12 && okP r)
def cP : List T34 → Nat
  | [] => 0
  | p :: r => cSs p.f1 + cP r
def mP : List T34 → Nat
  | [] => 0
  | p :: r => mSs p.f1 + mP r
theorem F76_ev (l : List T69) (h : ws69 l) (hl : l.length ≤ maxLen) (st ex : Int) (h1 : 0 ≤ st) (h2 : st ≤ 200) (h3 : 0 ≤ ex) (h4 : ex ≤ 8192) : Told3 (fun k => F76 k l 12 st ex) (okSs l 12) (cSs l) (mSs l) st ex := by
  obtain ⟨b, s1, x1, e1, e2, e3⟩ := progSs l h 12 st ex (by omega) (by omega) h1 h2 h3 h4 l 0 rfl hl
  exact ⟨b, s1, x1, Ev.succ (by simp only [F76]; exact e1), e2, e3⟩
theorem F37_ls : ∀ (rest : List T34), ws34 rest → ∀ (xs : List T34) (i : Nat), xs.drop i = rest → xs.length ≤ maxLen → ∀ st ex : Int, 0 ≤ st → st ≤ 200 → 0 ≤ ex → ex ≤ 8192 →
    Told3 (fun k => F37_l1 k xs (i : Int) st ex) (okP rest) (cP rest) (mP rest) st ex
  | [], h, xs, i, hd, hl, st, ex, h1, h2, h3, h4 => by
    refine ⟨true, st, ex, Ev.succ ?_, by simp [okP, cP, mP]; omega, by simp [cP, mP]⟩
    simp only [F37_l1, l34_len, ge_dec (drop_end hd), cond_false]
    exact Ev.pure
  | p :: rest, h, xs, i, hd, hl, st, ex, h1, h2, h3, h4 => by
    obtain ⟨q1, q2, q3⟩ := idx_drop hd
    have ih := F37_ls rest h.2 xs (i + 1) q3 hl
    obtain ⟨na, bo, at_⟩ := p
    have hw := h.1
    simp only [w34] at hw
    have hn := F75_ev na hw.1
    have yes : ∀ a b : Int, Ev (fun k => F37_j2 k xs (i : Int) true a b) (false, a, b) := fun a b => Ev.succ (by simp only [F37_j2, cond_true]; exact Ev.pure)
    cases hnm : nm na with
    | false =>
      rw [hnm] at hn
      refine ⟨false, st, ex, Ev.succ ?_, ⟨fun g => (by cases g), fun ⟨g, _⟩ => (by simp [okP, hnm] at g)⟩, fun g => by cases g⟩
      simp only [F37_l1, l34_len, lt_dec q2, cond_true, q1, Option.bind_some]
      refine Ev.bind hn ?_
      exact yes _ _
    | true =>
      rw [hnm] at hn
      obtain ⟨b, s1, x1, e1, e2, e3⟩ := F76_ev bo hw.2.1.2 hw.2.1.1 st ex h1 h2 h3 h4
      cases b with
      | false =>
        refine ⟨false, s1, x1, Ev.succ ?_, ⟨fun g => (by cases g), fun ⟨g1, g2, g3⟩ => ?_⟩, fun g => by cases g⟩
        · simp only [F37_l1, l34_len, lt_dec q2, cond_true, q1, Option.bind_some]
          refine Ev.bind hn ?_
          refine Ev.bind e1 ?_
          exact yes _ _
        · exfalso
          simp only [okP, Bool.and_eq_true] at g1
          simp only [cP, mP] at g2 g3
          have := e2.2 ⟨g1.2.1, by omega, by omega⟩
          cases this
      | true =>
        obtain ⟨a1, a2⟩ := e3 rfl
        have ok1 := e2.1 rfl
        obtain ⟨b, s2, x2, f1, f2, f3⟩ := ih s1 x1 (by omega) (by omega) (by omega) (by omega)
        refine ⟨b, s2, x2, Ev.succ ?_, ?_, ?_⟩
        · simp only [F37_l1, l34_len, lt_dec q2, cond_true, q1, Option.bind_some]
          refine Ev.bind hn ?_
          refine Ev.bind e1 ?_
          refine Ev.succ ?_
          simp only [F37_j2, Bool.not_true, cond_false, wrap_nat q2 hl]
          exact f1
        · rw [f2]
          simp only [okP, hnm, ok1.1, Bool.true_and, cP, mP]
          constructor
          · rintro ⟨a, b, c⟩; exact ⟨a, by omega, by omega⟩
          · rintro ⟨a, b, c⟩; exact ⟨a, by omega, by omega⟩
        · intro g
          obtain ⟨a, b⟩ := f3 g
          simp only [cP, mP]
          omega
def headB (w nd np : Int) : Bool := decide (w < 0) || (decide (w > 65535) || (decide (nd > 12) || (decide (np < 1) || decide (np > 6))))
theorem F37_ev (y : T24) (h : w24 y) : Told3 (fun k => F37 k y.f0 y.f1 y.f2) (!(headB y.f0 (y.f1.length : Int) (y.f2.length : Int)) && (y.f1.all okD && okP y.f2)) (cP y.f2) (mP y.f2) 0 0 := by
  obtain ⟨w, ds, ps⟩ := y
  simp only [w24] at h
  dsimp only
  have yes : Ev (fun k => F37_j0 k ds ps true) (false, 0, 0) := by simp only [F37_j0, cond_true]; exact Ev.pure
  have pre : ∀ {R : Bool × Int × Int}, Ev (fun k => F37_j0 k ds ps false) R → Ev (fun k => F37 k w ds ps) (bif headB w (ds.length : Int) (ps.length : Int) then (false, 0, 0) else R) := by
    intro R hR
    simp only [F37, l76_len, l34_len, headB]
    cases decide (w < 0) with
    | true => exact yes
    | false => cases decide (w > 65535) with
      | true => exact yes
      | false => cases decide ((ds.length : Int) > 12) with
        | true => exact yes
        | false => cases decide ((ps.length : Int) < 1) with
          | true => exact yes
          | false => cases decide ((ps.length : Int) > 6) with
            | true => exact yes
            | false => exact hR
  have hd := F72_ev ds h.2.1.2 h.2.1.1
  obtain ⟨b, s1, x1, e1, e2, e3⟩ := F37_ls ps h.2.2.2 ps 0 rfl h.2.2.1 0 0 (by omega) (by omega) (by omega) (by omega)
  have hj : Ev (fun k => F37_j0 k ds ps false) (bif ds.all okD then (b, s1, x1) else (false, 0, 0)) := by
    simp only [F37_j0, cond_false]
    refine Ev.bind hd ?_
    cases ds.all okD with
    | true => exact e1
    | false => exact Ev.pure
  have hp := pre hj
  cases hh : headB w (ds.length : Int) (ps.length : Int) with
  | true => rw [hh] at hp; exact ⟨false, 0, 0, hp, ⟨fun g => (by cases g), fun ⟨g, _⟩ => (by simp at g)⟩, fun g => by cases g⟩
  | false =>
    rw [hh] at hp
    cases hds : ds.all okD with
    | false => rw [hds] at hp; exact ⟨false, 0, 0, hp, ⟨fun g => (by cases g), fun ⟨g, _⟩ => (by simp at g)⟩, fun g => by cases g⟩
    | true => rw [hds] at hp; exact ⟨b, s1, x1, hp, by simpa using e2, e3⟩

/-! ### the reference -/
theorem F39_ev (l : List T69) (h : ws69 l) (hl : l.length ≤ maxLen) : RT (fun k => F39 k l 12) (okSs l 12) (cSs l : Int) (mSs l : Int) := by
  have r := refSs l h 12 0 0 (by omega) (by omega) (by omega) (by omega) (by omega) (by omega) l 0 rfl hl
  rw [Int.zero_add, Int.zero_add] at r
  obtain ⟨N, M, e1, e2⟩ := r
  exact ⟨N, M, Ev.succ (by simp only [F39]; exact e1), e2⟩
theorem F13_ls : ∀ (rest : List T34), ws34 rest → ∀ (xs : List T34) (i : Nat), xs.drop i = rest → xs.length ≤ maxLen → ∀ n m : Int, 0 ≤ n → n + 200 * (rest.length : Int) ≤ 2000 → 0 ≤ m → m + 8192 * (rest.length : Int) ≤ 100000 →
    RT (fun k => F13_l3 k xs n m (i : Int)) (okP rest) (n + (cP rest : Int)) (m + (mP rest : Int))
  | [], h, xs, i, hd, hl, n, m, h1, h2, h3, h4 => by
    have hz : ((cP [] : Nat) : Int) = 0 := rfl
    have hz2 : ((mP [] : Nat) : Int) = 0 := rfl
    rw [hz, hz2]
    have yes : Ev (fun k => F13_j5 k n m true) (-1, 0) := by simp only [F13_j5, cond_true]; exact Ev.pure
    by_cases c1 : n > 200
    · refine RT_bad (Ev.succ ?_) fun _ g _ => by omega
      simp only [F13_l3, l34_len, ge_dec (drop_end hd), cond_false, c1, decide_true, cond_true]
      exact yes
    · by_cases c2 : m > 8192
      · refine RT_bad (Ev.succ ?_) fun _ _ g => by omega
        simp only [F13_l3, l34_len, ge_dec (drop_end hd), cond_false, c1, c2, decide_false, decide_true]
        exact yes
      · refine ⟨n, m, Ev.succ ?_, fun _ => ⟨rfl, by omega, by omega⟩, fun _ _ _ => ⟨by omega, by omega⟩, by omega, by omega, by omega, by omega⟩
        simp only [F13_l3, l34_len, ge_dec (drop_end hd), cond_false, c1, c2, decide_false, F13_j5]
        exact Ev.pure
  | p :: rest, h, xs, i, hd, hl, n, m, h1, h2, h3, h4 => by
    obtain ⟨q1, q2, q3⟩ := idx_drop hd
    have ih := F13_ls rest h.2 xs (i + 1) q3 hl
    have hlen : ((p :: rest).length : Int) = (rest.length : Int) + 1 := by simp
    obtain ⟨na, bo, at_⟩ := p
    have hw := h.1
    simp only [w34] at hw
    have hn := F38_ev na hw.1
    obtain ⟨A, B, e1, e2, e3, e4, e5, e6, e7⟩ := F39_ev bo hw.2.1.2 hw.2.1.1
    have yes : Ev (fun k => F13_j4 k xs n m (i : Int) A B true) (-1, 0) := Ev.succ (by simp only [F13_j4, cond_true]; exact Ev.pure)
    by_cases c1 : A < 0
    · refine RT_bad (Ev.succ ?_) fun g1 g2 g3 => ?_
      · simp only [F13_l3, l34_len, lt_dec q2, cond_true, q1, Option.bind_some]
        refine Ev.bind e1 ?_
        simp only [c1, decide_true, cond_true]
        exact yes
      · simp only [okP, Bool.and_eq_true] at g1
        simp only [cP, mP] at g2 g3
        have := e3 g1.2.1 (by omega) (by omega)
        omega
    · obtain ⟨o1, a1, b1⟩ := e2 (by omega)
      cases hnm : nm na with
      | false =>
        rw [hnm] at hn
        refine RT_bad (Ev.succ ?_) fun g1 _ _ => by simp [okP, hnm] at g1
        simp only [F13_l3, l34_len, lt_dec q2, cond_true, q1, Option.bind_some]
        refine Ev.bind e1 ?_
        simp only [c1, decide_false, cond_false]
        refine Ev.bind hn ?_
        exact yes
      | true =>
        rw [hnm] at hn
        have w1 : IntKind.wrap .i64 (n + A) = n + A := by rw [IntKind.wrap_i64]; omega
        have w2 : IntKind.wrap .i64 (m + B) = m + B := by rw [IntKind.wrap_i64]; omega
        obtain ⟨N, M, f1, f2, f3, f4⟩ := ih (n + A) (m + B) (by omega) (by omega) (by omega) (by omega)
        refine ⟨N, M, Ev.succ ?_, fun g => ?_, fun g1 g2 g3 => ?_, f4⟩
        · simp only [F13_l3, l34_len, lt_dec q2, cond_true, q1, Option.bind_some]
          refine Ev.bind e1 ?_
          simp only [c1, decide_false, cond_false]
          refine Ev.bind hn ?_
          refine Ev.succ ?_
          simp only [F13_j4, Bool.not_true, cond_false, w1, w2, wrap_nat q2 hl]
          exact f1
        · obtain ⟨x, y, z⟩ := f2 g
          refine ⟨by simp [okP, hnm, o1, x], ?_, ?_⟩
          · simp only [cP]; omega
          · simp only [mP]; omega
        · simp only [okP, Bool.and_eq_true] at g1
          simp only [cP, mP] at g2 g3 ⊢
          obtain ⟨y, z⟩ := f3 g1.2.2 (by omega) (by omega)
          exact ⟨by omega, by omega⟩
end Go.Vm
