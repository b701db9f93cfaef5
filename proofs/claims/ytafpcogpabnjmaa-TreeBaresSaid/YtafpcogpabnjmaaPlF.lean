/- Plain laws of the tree's functions: expressions, in the reference. -/
import Derived.Test.YtafpcogpabnjmaaPlE
set_option linter.unusedVariables false
set_option linter.unusedSimpArgs false
set_option linter.unusedSectionVars false
namespace Go.Vm

def numE (kd : Int) (op : ByteArray) (nu : Int) (na : ByteArray) (len : Int) : Bool := (kd == 1) && (isE op && (isE na && (decide (nu ≥ 0) && (decide (nu ≤ 65535) && (len == 0)))))
def locE (kd : Int) (op : ByteArray) (nu : Int) (na : ByteArray) (len : Int) : Bool := (kd == 2) && (isE op && ((nu == 0) && (nm na && (len == 0))))
def sig (op : ByteArray) : Bool := (op.toList == (ByteArray.mk #[45]).toList) || ((op.toList == (ByteArray.mk #[126]).toList) || (op.toList == (ByteArray.mk #[33]).toList))
def unE (kd : Int) (op : ByteArray) (nu : Int) (na : ByteArray) (len : Int) : Bool := (kd == 3) && (sig op && ((nu == 0) && (isE na && (len == 1))))
def binE (kd : Int) (op : ByteArray) (nu : Int) (na : ByteArray) (len : Int) : Bool := (kd == 4) && (isOp op && ((nu == 0) && (isE na && (len == 2))))
theorem shape_eq (kd : Int) (op : ByteArray) (nu : Int) (na : ByteArray) (len : Int) : (numE kd op nu na len || (locE kd op nu na len || (unE kd op nu na len || binE kd op nu na len))) = shapeE kd op nu na len := by
  by_cases k1 : kd = 1
  · subst k1; simp [numE, locE, unE, binE, shapeE]
  by_cases k2 : kd = 2
  · subst k2; simp [numE, locE, unE, binE, shapeE]
  by_cases k3 : kd = 3
  · subst k3; simp [numE, locE, unE, binE, shapeE, sig]
  by_cases k4 : kd = 4
  · subst k4; simp [numE, locE, unE, binE, shapeE]
  simp [numE, locE, unE, binE, shapeE, beq_no k1, beq_no k2, beq_no k3, beq_no k4]

section
variable {d : Int} {l : List T57} {kd nu : Int} {op na : ByteArray} {rl : Int}
def RR (d rl : Int) (c : Bool) : Int := bif decide (1 ≤ d) && c then rl else -1
theorem ref_j3 (hl : 1 ≤ d → Ev (fun k => F82_l5 k d l 1 0) rl) (v8 v9 v11 v12 : Bool) : Ev (fun k => F82_j3 k d v8 v9 v11 l v12) (RR d rl (v8 || (v9 || (v11 || v12)))) := by
  have yes : Ev (fun k => F82_j4 k d l true) (-1) := Ev.succ (by simp only [F82_j4, cond_true]; exact Ev.pure)
  refine Ev.succ ?_
  simp only [F82_j3]
  by_cases hd : d < 1
  · have : decide (1 ≤ d) = false := by simp; omega
    simp only [hd, decide_true, cond_true, RR, this, Bool.false_and, cond_false]
    exact yes
  · have h1 : 1 ≤ d := by omega
    have hd1 : decide (1 ≤ d) = true := by simp [h1]
    have no : Ev (fun k => F82_j4 k d l false) rl := Ev.succ (by simp only [F82_j4, cond_false]; exact hl h1)
    simp only [hd, decide_false, cond_false, RR, hd1, Bool.true_and]
    cases v8 with
    | true => exact no
    | false => cases v9 with
      | true => exact no
      | false => cases v11 with
        | true => exact no
        | false => cases v12 with
          | true => exact no
          | false => exact yes
theorem ref_j2 (hl : 1 ≤ d → Ev (fun k => F82_l5 k d l 1 0) rl) (v8 v9 v11 : Bool) : Ev (fun k => F82_j2 k d v8 v9 kd op nu na l v11) (RR d rl (v8 || (v9 || (v11 || binE kd op nu na (l.length : Int))))) := by
  have J := ref_j3 hl v8 v9 v11
  refine Ev.succ ?_
  simp only [F82_j2, l57_len, binE]
  cases (kd == 4) with
  | false => exact J false
  | true =>
    obtain ⟨v, hv, hv2⟩ := F122_ev op
    simp only [cond_true, Bool.true_and]
    refine Ev.bind hv ?_
    simp only [hv2]
    cases isOp op with
    | false => exact J false
    | true => cases (nu == 0) with
      | false => exact J false
      | true =>
        simp only [cond_true, Bool.true_and, isE]
        cases (na.toList == (ByteArray.mk #[]).toList) with
        | false => exact J false
        | true => exact J _
theorem ref_j1 (hl : 1 ≤ d → Ev (fun k => F82_l5 k d l 1 0) rl) (v8 v9 : Bool) : Ev (fun k => F82_j1 k d v8 kd op nu na l v9) (RR d rl (v8 || (v9 || (unE kd op nu na (l.length : Int) || binE kd op nu na (l.length : Int))))) := by
  have J := ref_j2 (kd := kd) (op := op) (nu := nu) (na := na) hl v8 v9
  refine Ev.succ ?_
  simp only [F82_j1, l57_len, unE, sig, isE]
  cases (kd == 3) with
  | false => exact J false
  | true =>
    simp only [cond_true, Bool.true_and]
    have go : Ev (fun k => bif (nu == 0) then (bif (na.toList == (ByteArray.mk #[]).toList) then F82_j2 k d v8 v9 kd op nu na l ((l.length : Int) == 1) else F82_j2 k d v8 v9 kd op nu na l false) else F82_j2 k d v8 v9 kd op nu na l false)
        (RR d rl (v8 || (v9 || (((nu == 0) && ((na.toList == (ByteArray.mk #[]).toList) && ((l.length : Int) == 1))) || binE kd op nu na (l.length : Int))))) := by
      cases (nu == 0) with
      | false => exact J false
      | true => cases (na.toList == (ByteArray.mk #[]).toList) with
        | false => exact J false
        | true => exact J _
    cases (op.toList == (ByteArray.mk #[45]).toList) with
    | true => exact go
    | false => cases (op.toList == (ByteArray.mk #[126]).toList) with
      | true => exact go
      | false => cases (op.toList == (ByteArray.mk #[33]).toList) with
        | true => exact go
        | false => exact J false
theorem ref_j0 (hna : na.size ≤ maxLen) (hl : 1 ≤ d → Ev (fun k => F82_l5 k d l 1 0) rl) (v8 : Bool) : Ev (fun k => F82_j0 k d kd op nu na l v8) (RR d rl (v8 || (locE kd op nu na (l.length : Int) || (unE kd op nu na (l.length : Int) || binE kd op nu na (l.length : Int))))) := by
  have J := ref_j1 (kd := kd) (op := op) (nu := nu) (na := na) hl v8
  refine Ev.succ ?_
  simp only [F82_j0, l57_len, locE, isE]
  cases (kd == 2) with
  | false => exact J false
  | true => cases (op.toList == (ByteArray.mk #[]).toList) with
    | false => exact J false
    | true => cases (nu == 0) with
      | false => exact J false
      | true =>
        simp only [cond_true, Bool.true_and]
        refine Ev.bind (F38_ev na hna) ?_
        cases nm na with
        | false => exact J false
        | true => exact J _
theorem ref_all {at_ : Int} (hna : na.size ≤ maxLen) (hl : 1 ≤ d → Ev (fun k => F82_l5 k d l 1 0) rl) : Ev (fun k => F82 k kd op nu na l at_ d) (RR d rl (shapeE kd op nu na (l.length : Int))) := by
  have J := ref_j0 (kd := kd) (op := op) (nu := nu) (na := na) hna hl
  rw [← shape_eq]
  refine Ev.succ ?_
  simp only [F82, l57_len, numE, isE]
  cases (kd == 1) with
  | false => exact J false
  | true => cases (op.toList == (ByteArray.mk #[]).toList) with
    | false => exact J false
    | true => cases (na.toList == (ByteArray.mk #[]).toList) with
      | false => exact J false
      | true => cases decide (nu ≥ 0) with
        | false => exact J false
        | true => cases decide (nu ≤ 65535) with
          | false => exact J false
          | true => exact J _
end

theorem shape_len {kd : Int} {op : ByteArray} {nu : Int} {na : ByteArray} {len : Int} (h : shapeE kd op nu na len = true) : len ≤ 2 := by
  unfold shapeE at h
  cases h1 : (kd == 1) <;> cases h2 : (kd == 2) <;> cases h3 : (kd == 3) <;> cases h4 : (kd == 4) <;> simp only [h1, h2, h3, h4, cond_true, cond_false, Bool.and_eq_true, beq_iff_eq, Bool.false_eq_true] at h <;> omega

mutual
theorem refE : ∀ (e : T57), w57 e → ∀ (d : Int), -1000 ≤ d → d ≤ 1000 → ∃ r : Int, Ev (fun k => F82 k e.f0 e.f1 e.f2 e.f3 e.f4 e.f5 d) r ∧ (0 ≤ r → okE e d = true ∧ r = (cE e : Int)) ∧ (okE e d = true → (cE e : Int) ≤ 10000 → r = (cE e : Int)) ∧ -1 ≤ r ∧ r ≤ 30000
  | ⟨kd, op, nu, na, l, at_⟩, h, d, hd0, hd => by
    simp only [w57] at h
    by_cases hs : 1 ≤ d ∧ shapeE kd op nu na (l.length : Int) = true
    · have hlen := shape_len hs.2
      obtain ⟨r, h1, h2, h3, h4, h5⟩ := refEs l h.2.2.2.2.1.2 d hs.1 hd l 0 1 rfl h.2.2.2.2.1.1 (by omega) (by omega)
      have key := ref_all (kd := kd) (op := op) (nu := nu) (na := na) (at_ := at_) (d := d) (l := l) (rl := r) h.2.2.2.1 (fun _ => h1)
      have hr : RR d r (shapeE kd op nu na (l.length : Int)) = r := by simp [RR, hs.1, hs.2]
      rw [hr] at key
      refine ⟨r, key, fun g => ?_, fun g1 g2 => ?_, h4, h5⟩
      · obtain ⟨a, b⟩ := h2 g
        refine ⟨by simp [okE, hs.1, hs.2, a], ?_⟩
        simp only [cE]; omega
      · simp only [okE, Bool.and_eq_true] at g1
        simp only [cE] at g2 ⊢
        rw [h3 g1.2.2 (by omega)]
        omega
    · have key := ref_all (kd := kd) (op := op) (nu := nu) (na := na) (at_ := at_) (d := d) (l := l) (rl := RR d 0 (shapeE kd op nu na (l.length : Int))) h.2.2.2.1
      have hz : (decide (1 ≤ d) && shapeE kd op nu na (l.length : Int)) = false := by
        cases e : (decide (1 ≤ d) && shapeE kd op nu na (l.length : Int)) with
        | false => rfl
        | true => simp only [Bool.and_eq_true, decide_eq_true_eq] at e; exact absurd e hs
      have hok : okE ⟨kd, op, nu, na, l, at_⟩ d = false := by simp only [okE]; rw [← Bool.and_assoc, hz, Bool.false_and]
      have : Ev (fun k => F82 k kd op nu na l at_ d) (-1) := by
        by_cases hd1 : 1 ≤ d
        · have hs2 : shapeE kd op nu na (l.length : Int) = false := by simpa [hd1] using hz
          obtain ⟨r, h1⟩ : ∃ r, Ev (fun k => F82_l5 k d l 1 0) r := refEx l h.2.2.2.2.1.2 d hd1 hd l 0 1 rfl h.2.2.2.2.1.1
          have key := ref_all (kd := kd) (op := op) (nu := nu) (na := na) (at_ := at_) (d := d) (l := l) (rl := r) h.2.2.2.1 (fun _ => h1)
          simpa [RR, hs2] using key
        · have key := ref_all (kd := kd) (op := op) (nu := nu) (na := na) (at_ := at_) (d := d) (l := l) (rl := 0) h.2.2.2.1 (fun g => absurd g hd1)
          have : decide (1 ≤ d) = false := by simp; omega
          simpa [RR, this] using key
      exact ⟨-1, this, fun g => by omega, fun g1 _ => (by rw [hok] at g1; cases g1), by omega, by omega⟩
theorem refEs : ∀ (rest : List T57), ws57 rest → ∀ (d : Int), 1 ≤ d → d ≤ 1000 → ∀ (xs : List T57) (i : Nat) (n : Int), xs.drop i = rest → xs.length ≤ maxLen → 0 ≤ n → n + 10000 * (rest.length : Int) ≤ 30000 →
    ∃ r : Int, Ev (fun k => F82_l5 k d xs n (i : Int)) r ∧ (0 ≤ r → okEs rest (d - 1) = true ∧ r = n + (cEs rest : Int)) ∧ (okEs rest (d - 1) = true → (cEs rest : Int) ≤ 10000 → r = n + (cEs rest : Int)) ∧ -1 ≤ r ∧ r ≤ 30000
  | [], h, d, hd0, hd, xs, i, n, hdr, hl, hn, hb => by
    refine ⟨n, Ev.succ ?_, fun _ => ⟨rfl, by simp [cEs]⟩, fun _ _ => by simp [cEs], by omega, by simp at hb; omega⟩
    simp only [F82_l5, l57_len, ge_dec (drop_end hdr), cond_false]
    exact Ev.pure
  | e :: rest, h, d, hd0, hd, xs, i, n, hdr, hl, hn, hb => by
    obtain ⟨q1, q2, q3⟩ := idx_drop hdr
    have hw : IntKind.wrap .i64 (d - 1) = d - 1 := by rw [IntKind.wrap_i64]; omega
    obtain ⟨r1, e1, e2, e3, e4, e5⟩ := refE e h.1 (d - 1) (by omega) (by omega)
    have hlen : ((e :: rest).length : Int) = (rest.length : Int) + 1 := by simp
    by_cases hbad : r1 < 0 ∨ r1 > 10000
    · refine ⟨-1, Ev.succ ?_, fun g => by omega, fun g1 g2 => ?_, by omega, by omega⟩
      · obtain ⟨a1, a2, a3, a4, a5, a6⟩ := e
        simp only [F82_l5, l57_len, lt_dec q2, cond_true, q1, Option.bind_some, hw]
        refine Ev.bind e1 ?_
        have yes : Ev (fun k => F82_j6 k d xs n (i : Int) r1 true) (-1) := Ev.succ (by simp only [F82_j6, cond_true]; exact Ev.pure)
        by_cases h0 : r1 < 0
        · simp only [h0, decide_true, cond_true]; exact yes
        · have : r1 > 10000 := by omega
          simp only [h0, decide_false, cond_false, this, decide_true]; exact yes
      · exfalso
        simp only [okEs, Bool.and_eq_true] at g1
        simp only [cEs] at g2
        have := e3 g1.1 (by omega)
        omega
    · obtain ⟨ok1, c1⟩ := e2 (by omega)
      have hwn : IntKind.wrap .i64 (n + r1) = n + r1 := by rw [IntKind.wrap_i64]; omega
      obtain ⟨r, f1, f2, f3, f4, f5⟩ := refEs rest h.2 d hd0 hd xs (i + 1) (n + r1) q3 hl (by omega) (by omega)
      refine ⟨r, Ev.succ ?_, fun g => ?_, fun g1 g2 => ?_, f4, f5⟩
      · obtain ⟨a1, a2, a3, a4, a5, a6⟩ := e
        simp only [F82_l5, l57_len, lt_dec q2, cond_true, q1, Option.bind_some, hw]
        refine Ev.bind e1 ?_
        have h0 : ¬ r1 < 0 := by omega
        have h2 : ¬ r1 > 10000 := by omega
        simp only [h0, h2, decide_false, cond_false]
        refine Ev.succ ?_
        simp only [F82_j6, cond_false, wrap_nat q2 hl, hwn]
        exact f1
      · obtain ⟨a, b⟩ := f2 g
        refine ⟨by simp [okEs, ok1, a], ?_⟩
        simp only [cEs]; omega
      · simp only [okEs, Bool.and_eq_true] at g1
        simp only [cEs] at g2 ⊢
        rw [f3 g1.2 (by omega)]
        omega
/-- The loop ends, whatever the length. -/
theorem refEx : ∀ (rest : List T57), ws57 rest → ∀ (d : Int), 1 ≤ d → d ≤ 1000 → ∀ (xs : List T57) (i : Nat) (n : Int), xs.drop i = rest → xs.length ≤ maxLen → ∃ r : Int, Ev (fun k => F82_l5 k d xs n (i : Int)) r
  | [], h, d, hd0, hd, xs, i, n, hdr, hl => by
    refine ⟨n, Ev.succ ?_⟩
    simp only [F82_l5, l57_len, ge_dec (drop_end hdr), cond_false]
    exact Ev.pure
  | e :: rest, h, d, hd0, hd, xs, i, n, hdr, hl => by
    obtain ⟨q1, q2, q3⟩ := idx_drop hdr
    have hw : IntKind.wrap .i64 (d - 1) = d - 1 := by rw [IntKind.wrap_i64]; omega
    obtain ⟨r1, e1, _⟩ := refE e h.1 (d - 1) (by omega) (by omega)
    obtain ⟨r, f1⟩ := refEx rest h.2 d hd0 hd xs (i + 1) (IntKind.wrap .i64 (n + r1)) q3 hl
    have yes : Ev (fun k => F82_j6 k d xs n (i : Int) r1 true) (-1) := Ev.succ (by simp only [F82_j6, cond_true]; exact Ev.pure)
    have no : Ev (fun k => F82_j6 k d xs n (i : Int) r1 false) r := Ev.succ (by simp only [F82_j6, cond_false, wrap_nat q2 hl]; exact f1)
    have : ∃ r', Ev (fun k => bif decide (r1 < 0) then F82_j6 k d xs n (i : Int) r1 true else F82_j6 k d xs n (i : Int) r1 (decide (r1 > 10000))) r' := by
      cases decide (r1 < 0) with
      | true => exact ⟨_, yes⟩
      | false => cases decide (r1 > 10000) with
        | true => exact ⟨_, yes⟩
        | false => exact ⟨_, no⟩
    obtain ⟨r', hr'⟩ := this
    refine ⟨r', Ev.succ ?_⟩
    obtain ⟨a1, a2, a3, a4, a5, a6⟩ := e
    simp only [F82_l5, l57_len, lt_dec q2, cond_true, q1, Option.bind_some, hw]
    refine Ev.bind e1 ?_
    exact hr'
end
end Go.Vm
