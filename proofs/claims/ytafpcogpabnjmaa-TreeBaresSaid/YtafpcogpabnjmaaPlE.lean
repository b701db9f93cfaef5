/- Plain laws of the tree's functions: expressions, in the program. -/
import Derived.Test.YtafpcogpabnjmaaPlD
set_option linter.unusedVariables false
set_option linter.unusedSimpArgs false
set_option linter.unusedSectionVars false
namespace Go.Vm

def isE (s : ByteArray) : Bool := s.toList == (ByteArray.mk #[]).toList
def shapeE (kd : Int) (op : ByteArray) (nu : Int) (na : ByteArray) (len : Int) : Bool :=
  bif kd == 1 then isE op && (isE na && (decide (nu ≥ 0) && (decide (nu ≤ 65535) && (len == 0))))
  else bif kd == 2 then isE op && ((nu == 0) && (nm na && (len == 0)))
  else bif kd == 3 then ((op.toList == (ByteArray.mk #[45]).toList) || ((op.toList == (ByteArray.mk #[126]).toList) || (op.toList == (ByteArray.mk #[33]).toList))) && ((nu == 0) && (isE na && (len == 1)))
  else bif kd == 4 then isOp op && ((nu == 0) && (isE na && (len == 2)))
  else false
mutual
def okE : T57 → Int → Bool
  | ⟨kd, op, nu, na, l, _⟩, d => decide (1 ≤ d) && (shapeE kd op nu na (l.length : Int) && okEs l (d - 1))
def okEs : List T57 → Int → Bool
  | [], _ => true
  | e :: r, d => okE e d && okEs r d
end
mutual
def cE : T57 → Nat
  | ⟨_, _, _, _, l, _⟩ => 1 + cEs l
def cEs : List T57 → Nat
  | [] => 0
  | e :: r => cE e + cEs r
end
theorem beq_no {a b : Int} (h : a ≠ b) : (a == b) = false := by
  cases e : (a == b) with
  | false => rfl
  | true => exact absurd (eq_of_beq e) h

theorem shape_prog {d st x : Int} {l : List T57} {op na : ByteArray} {nu kd : Int} {Rt : Bool × Int} (hna : na.size ≤ maxLen) (hx1 : IntKind.wrap .i64 (x + 1) = x + 1)
    (J1 : ∀ (a : Int) (c : Bool), Ev (fun k => F61_j1 k st x l d a c) (bif (c && ((l.length : Int) == a)) then Rt else (false, x + 1))) :
    Ev (fun k => F61_j0 k st x kd op nu na l d false) (bif shapeE kd op nu na (l.length : Int) then Rt else (false, x + 1)) := by
  have no : ∀ a, Ev (fun k => F61_j1 k st x l d a false) (false, x + 1) := fun a => by have := J1 a false; simpa using this
  refine Ev.succ ?_
  simp only [F61_j0, cond_false]
  change Ev (fun k => bif kd == 1 then (bif isE op then (bif isE na then (bif decide (nu ≥ 0) then F61_j1 k st x l d 0 (decide (nu ≤ 65535)) else F61_j1 k st x l d 0 false) else F61_j1 k st x l d 0 false) else F61_j1 k st x l d 0 false) else _) _
  by_cases k1 : kd = 1
  · subst k1
    simp only [shapeE, show ((1 : Int) == 1) = true from rfl, cond_true]
    cases isE op with
    | false => exact no 0
    | true => cases isE na with
      | false => exact no 0
      | true => cases decide (nu ≥ 0) with
        | false => exact no 0
        | true => exact J1 0 _
  rw [beq_no k1]
  simp only [cond_false]
  by_cases k2 : kd = 2
  · subst k2
    simp only [shapeE, show ((2 : Int) == 1) = false from rfl, show ((2 : Int) == 2) = true from rfl, cond_true, cond_false]
    change Ev (fun k => bif isE op then _ else _) _
    cases isE op with
    | false => exact no 0
    | true =>
      simp only [cond_true, Bool.true_and]
      cases (nu == 0) with
      | false => exact no 0
      | true =>
        simp only [cond_true, Bool.true_and]
        refine Ev.bind (F75_ev na hna) ?_
        exact J1 0 _
  rw [beq_no k2]
  simp only [cond_false]
  by_cases k3 : kd = 3
  · subst k3
    simp only [shapeE, show ((3 : Int) == 1) = false from rfl, show ((3 : Int) == 2) = false from rfl, show ((3 : Int) == 3) = true from rfl, cond_true, cond_false]
    have go : Ev (fun k => bif (nu == 0) then F61_j1 k st x l d 1 (na.toList == (ByteArray.mk #[]).toList) else F61_j1 k st x l d 1 false) (bif ((nu == 0) && (isE na && ((l.length : Int) == 1))) then Rt else (false, x + 1)) := by
      cases (nu == 0) with
      | false => exact no 1
      | true => exact J1 1 _
    cases (op.toList == (ByteArray.mk #[45]).toList) with
    | true => exact go
    | false => cases (op.toList == (ByteArray.mk #[126]).toList) with
      | true => exact go
      | false => cases (op.toList == (ByteArray.mk #[33]).toList) with
        | true => exact go
        | false => exact no 1
  rw [beq_no k3]
  simp only [cond_false]
  by_cases k4 : kd = 4
  · subst k4
    obtain ⟨v, hv, hv2⟩ := F110_ev op
    simp only [shapeE, show ((4 : Int) == 1) = false from rfl, show ((4 : Int) == 2) = false from rfl, show ((4 : Int) == 3) = false from rfl, show ((4 : Int) == 4) = true from rfl, cond_true, cond_false, hv, Option.bind_some, hv2]
    cases isOp op with
    | false => exact no 2
    | true => cases (nu == 0) with
      | false => exact no 2
      | true => exact J1 2 _
  rw [beq_no k4]
  simp only [cond_false, shapeE, beq_no k1, beq_no k2, beq_no k3, beq_no k4]
  exact no 0

mutual
theorem progE : ∀ (e : T57), w57 e → ∀ (d st x : Int), 0 ≤ x → x ≤ 8192 → d ≤ 1000 → ∃ (b : Bool) (x' : Int), Ev (fun k => F61 k e.f0 e.f1 e.f2 e.f3 e.f4 e.f5 d st x) (b, x') ∧ (b = true ↔ okE e d = true ∧ x + (cE e : Int) ≤ 8192) ∧ (b = true → x' = x + (cE e : Int))
  | ⟨kd, op, nu, na, l, at_⟩, h, d, st, x, h0, h1, hd => by
    simp only [w57] at h
    have hx1 : IntKind.wrap .i64 (x + 1) = x + 1 := by rw [IntKind.wrap_i64]; omega
    by_cases hov : x + 1 > 8192 ∨ d < 1
    · refine ⟨false, x + 1, ?_, ⟨fun h => (by cases h), fun ⟨ho, hc⟩ => ?_⟩, fun h => by cases h⟩
      · have key : Ev (fun k => F61_j0 k st x kd op nu na l d true) (false, x + 1) := Ev.succ (by simp only [F61_j0, cond_true, hx1]; exact Ev.pure)
        refine Ev.succ ?_
        simp only [F61, hx1]
        by_cases hq : x + 1 > 8192
        · simp only [hq, decide_true, cond_true]; exact key
        · have hd1 : d < 1 := by omega
          simp only [hq, decide_false, cond_false, hd1, decide_true]; exact key
      · exfalso
        simp only [okE, Bool.and_eq_true, decide_eq_true_eq] at ho
        simp only [cE] at hc
        omega
    · have hd1 : 1 ≤ d := by omega
      have hxx : x + 1 ≤ 8192 := by omega
      obtain ⟨j, x', he, hj, hx'⟩ := progEs l h.2.2.2.2.1.2 d st (x + 1) (by omega) hxx hd1 hd l 0 rfl h.2.2.2.2.1.1
      have J1 : ∀ (a : Int) (c : Bool), Ev (fun k => F61_j1 k st x l d a c) (bif (c && ((l.length : Int) == a)) then (!(decide (j ≥ 0)), x') else (false, x + 1)) := by
        intro a c
        refine Ev.succ ?_
        simp only [F61_j1, l57_len, hx1]
        cases c with
        | false => exact Ev.pure
        | true => cases hl : ((l.length : Int) == a) with
          | false => exact Ev.pure
          | true =>
            simp only [cond_true, Bool.true_and]
            have f111 : Ev (fun k => F111 k l st (x + 1) d) (decide (j ≥ 0), x') := by
              refine Ev.succ ?_
              simp only [F111]
              refine Ev.bind (a := (j, x')) (Ev.succ ?_) Ev.pure
              simp only [F134]
              exact he
            exact Ev.bind f111 Ev.pure
      have key := shape_prog (kd := kd) (op := op) (nu := nu) (na := na) h.2.2.2.1 hx1 J1
      have f61 : Ev (fun k => F61 k kd op nu na l at_ d st x) (bif shapeE kd op nu na (l.length : Int) then (!(decide (j ≥ 0)), x') else (false, x + 1)) := by
        refine Ev.succ ?_
        have hq : ¬ (x + 1 > 8192) := by omega
        have hq2 : ¬ (d < 1) := by omega
        simp only [F61, hx1, hq, hq2, decide_false, cond_false]
        exact key
      cases hs : shapeE kd op nu na (l.length : Int) with
      | false =>
        rw [hs] at f61
        exact ⟨false, x + 1, f61, ⟨fun h => (by cases h), fun ⟨ho, _⟩ => by simp [okE, hs] at ho⟩, fun h => by cases h⟩
      | true =>
        rw [hs] at f61
        refine ⟨_, _, f61, ?_, ?_⟩
        · have e1 : (!(decide (j ≥ 0))) = true ↔ j < 0 := by simp
          rw [e1, hj]
          simp only [okE, hs, Bool.true_and, Bool.and_eq_true, decide_eq_true_eq, cE]
          constructor
          · rintro ⟨a, b⟩; exact ⟨⟨hd1, a⟩, by omega⟩
          · rintro ⟨⟨_, a⟩, b⟩; exact ⟨a, by omega⟩
        · intro hb
          have e1 : j < 0 := by simpa using hb
          rw [hx' e1]
          simp only [cE]
          omega
theorem progEs : ∀ (rest : List T57), ws57 rest → ∀ (d st x : Int), 0 ≤ x → x ≤ 8192 → 1 ≤ d → d ≤ 1000 → ∀ (xs : List T57) (i : Nat), xs.drop i = rest → xs.length ≤ maxLen → ∃ (j x' : Int), Ev (fun k => F134_l0 k xs st d (i : Int) x) (j, x') ∧ (j < 0 ↔ okEs rest (d - 1) = true ∧ x + (cEs rest : Int) ≤ 8192) ∧ (j < 0 → x' = x + (cEs rest : Int))
  | [], h, d, st, x, h0, h1, hd1, hd, xs, i, hdr, hl => by
    refine ⟨-1, x, Ev.succ ?_, ?_, ?_⟩
    · simp only [F134_l0, l57_len, ge_dec (drop_end hdr), cond_false]
      exact Ev.pure
    · simp [okEs, cEs]; omega
    · simp [cEs]
  | e :: rest, h, d, st, x, h0, h1, hd1, hd, xs, i, hdr, hl => by
    obtain ⟨q1, q2, q3⟩ := idx_drop hdr
    have hw : IntKind.wrap .i64 (d - 1) = d - 1 := by rw [IntKind.wrap_i64]; omega
    obtain ⟨b, x1, e1, e2, e3⟩ := progE e h.1 (d - 1) st x h0 h1 (by omega)
    cases b with
    | false =>
      refine ⟨(i : Int), x1, Ev.succ ?_, ⟨fun g => (by omega), fun ⟨ho, hc⟩ => ?_⟩, fun g => by omega⟩
      · obtain ⟨a1, a2, a3, a4, a5, a6⟩ := e
        simp only [F134_l0, l57_len, lt_dec q2, cond_true, q1, Option.bind_some]
        refine Ev.bind (a := (true, x1)) (Ev.succ ?_) Ev.pure
        simp only [F112, hw]
        exact Ev.bind e1 Ev.pure
      · exfalso
        simp only [okEs, Bool.and_eq_true] at ho
        simp only [cEs] at hc
        have := e2.2 ⟨ho.1, by omega⟩
        cases this
    | true =>
      have hx1 := e3 rfl
      have hok := e2.1 rfl
      obtain ⟨j, x', f1, f2, f3⟩ := progEs rest h.2 d st x1 (by omega) (by omega) hd1 hd xs (i + 1) q3 hl
      refine ⟨j, x', Ev.succ ?_, ?_, ?_⟩
      · obtain ⟨a1, a2, a3, a4, a5, a6⟩ := e
        simp only [F134_l0, l57_len, lt_dec q2, cond_true, q1, Option.bind_some, wrap_nat q2 hl]
        refine Ev.bind (a := (false, x1)) (Ev.succ ?_) f1
        simp only [F112, hw]
        exact Ev.bind e1 Ev.pure
      · rw [f2]
        simp only [okEs, hok.1, Bool.true_and, cEs]
        constructor
        · rintro ⟨a, b⟩; exact ⟨a, by omega⟩
        · rintro ⟨a, b⟩; exact ⟨a, by omega⟩
      · intro g
        rw [f3 g]
        simp only [cEs]
        omega
end
end Go.Vm
