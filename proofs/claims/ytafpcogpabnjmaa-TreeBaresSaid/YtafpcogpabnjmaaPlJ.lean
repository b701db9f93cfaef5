/- Plain laws of the tree's functions: lists of statements, in the reference. -/
import Derived.Test.YtafpcogpabnjmaaPlI
set_option linter.unusedVariables false
set_option linter.unusedSimpArgs false
set_option linter.unusedSectionVars false
namespace Go.Vm

theorem shapeS_len {kd : Int} {na lo : ByteArray} {nex nbo nel : Int} (k1 : 1 ≤ kd) (k2 : kd ≤ 16) (h : shapeS kd na lo nex nbo nel = true) : nex ≤ 2 := by
  obtain ⟨a, b, c, e, f, hi, ha, hc⟩ := ask_in k1 k2
  unfold shapeS at h
  rw [ha] at h
  simp only [Bool.and_eq_true, beq_iff_eq] at h
  have := h.2.2.2.1
  omega

mutual
theorem refS : ∀ (s : T69), w69 s → ∀ (d : Int), -1000 ≤ d → d ≤ 1000 →
    RT (fun k => F39 k s.f4 d) (okSs s.f4 d) (cSs s.f4 : Int) (mSs s.f4 : Int) ∧ RT (fun k => F39 k s.f5 d) (okSs s.f5 d) (cSs s.f5 : Int) (mSs s.f5 : Int)
  | ⟨kd, na, lo, es, bo, el, at_⟩, h, d, hd0, hd => by
    simp only [w69] at h
    have r1 := refSs bo h.2.2.2.2.1.2 d 0 0 hd0 hd (by omega) (by omega) (by omega) (by omega) bo 0 rfl h.2.2.2.2.1.1
    have r2 := refSs el h.2.2.2.2.2.1.2 d 0 0 hd0 hd (by omega) (by omega) (by omega) (by omega) el 0 rfl h.2.2.2.2.2.1.1
    rw [Int.zero_add, Int.zero_add] at r1 r2
    obtain ⟨N, M, e1, e2⟩ := r1
    obtain ⟨N', M', e1', e2'⟩ := r2
    exact ⟨⟨N, M, Ev.succ (by simp only [F39]; exact e1), e2⟩, ⟨N', M', Ev.succ (by simp only [F39]; exact e1'), e2'⟩⟩
theorem refSs : ∀ (rest : List T69), ws69 rest → ∀ (d n m : Int), -1000 ≤ d → d ≤ 1000 → 0 ≤ n → n ≤ 200 → 0 ≤ m → m ≤ 8192 → ∀ (xs : List T69) (i : Nat), xs.drop i = rest → xs.length ≤ maxLen →
    RT (fun k => F39_l0 k xs d n m (i : Int)) (okSs rest d) (n + (cSs rest : Int)) (m + (mSs rest : Int))
  | [], h, d, n, m, hd0, hd, h1, h2, h3, h4, xs, i, hdr, hl => by
    refine ⟨n, m, Ev.succ ?_, fun _ => ⟨rfl, by simp [cSs], by simp [mSs]⟩, fun _ _ _ => ⟨by simp [cSs], by simp [mSs]⟩, by omega, h2, h3, h4⟩
    simp only [F39_l0, l69_len, ge_dec (drop_end hdr), cond_false]
    exact Ev.pure
  | s :: rest, h, d, n, m, hd0, hd, h1, h2, h3, h4, xs, i, hdr, hl => by
    obtain ⟨q1, q2, q3⟩ := idx_drop hdr
    have hsub := refS s h.1 (d - 1)
    have ih := fun n m a1 a2 a3 a4 => refSs rest h.2 d n m hd0 hd a1 a2 a3 a4 xs (i + 1) q3 hl
    obtain ⟨kd, na, lo, es, bo, el, at_⟩ := s
    dsimp only at hsub
    have hw := h.1
    simp only [w69] at hw
    have yes : Ev (fun k => F39_j1 k xs d n m (i : Int) true kd na lo es bo el) (-1, 0) := Ev.succ (by simp only [F39_j1, cond_true]; exact Ev.pure)
    by_cases hov : d < 1 ∨ kd < 1 ∨ kd > 16
    · refine RT_bad (Ev.succ ?_) fun g1 _ _ => ?_
      · simp only [F39_l0, l69_len, lt_dec q2, cond_true, q1, Option.bind_some]
        by_cases c1 : d < 1
        · simp only [c1, decide_true, cond_true]; exact yes
        · by_cases c2 : kd < 1
          · simp only [c1, decide_false, cond_false, c2, decide_true, cond_true]; exact yes
          · have c3 : kd > 16 := by omega
            simp only [c1, c2, decide_false, cond_false, c3, decide_true]; exact yes
      · simp only [okSs, okS, Bool.and_eq_true, decide_eq_true_eq, shapeS] at g1
        rcases hov with c | c
        · omega
        · have := ask_out c
          rw [this] at g1
          simp at g1
    · have hd1 : 1 ≤ d := by omega
      have k1 : 1 ≤ kd := by omega
      have k2 : kd ≤ 16 := by omega
      have hwd : IntKind.wrap .i64 (d - 1) = d - 1 := by rw [IntKind.wrap_i64]; omega
      -- the statement's parts
      have hj2 : (es.length : Int) ≤ 2 → RT (fun k => F39_j2 k xs d n m (i : Int) false es bo el) (okEs es 12 && (okSs bo (d - 1) && (okSs el (d - 1) && okSs rest d))) (n + 1 + (cSs bo : Int) + (cSs el : Int) + (cSs rest : Int)) (m + (cEs es : Int) + (mSs bo : Int) + (mSs el : Int) + (mSs rest : Int)) := by
        intro hlen
        obtain ⟨⟨A1, B1, e1, e2, e3, e4, e5, e6, e7⟩, ⟨A2, B2, f1, f2, f3, f4, f5, f6, f7⟩⟩ := hsub (by omega) (by omega)
        by_cases hbad : A1 < 0 ∨ A2 < 0
        · refine RT_bad (Ev.succ ?_) fun g1 g2 g3 => ?_
          · simp only [F39_j2, cond_false, hwd]
            refine Ev.bind e1 ?_
            refine Ev.bind f1 ?_
            have y3 : Ev (fun k => F39_j3 k xs d n m (i : Int) A1 B1 A2 B2 true es) (-1, 0) := Ev.succ (by simp only [F39_j3, cond_true]; exact Ev.pure)
            by_cases c1 : A1 < 0
            · simp only [c1, decide_true, cond_true]; exact y3
            · have c2 : A2 < 0 := by omega
              simp only [c1, decide_false, cond_false, c2, decide_true]; exact y3
          · simp only [Bool.and_eq_true] at g1
            have := e3 g1.2.1 (by omega) (by omega)
            have := f3 g1.2.2.1 (by omega) (by omega)
            omega
        · obtain ⟨o1, a1, b1⟩ := e2 (by omega)
          obtain ⟨o2, a2, b2⟩ := f2 (by omega)
          have hx := ref_exprs (d := d) (n := n) (a1 := A1) (b1 := B1) (a2 := A2) (b2 := B2) (xs := xs) (i := i) (es0 := es) (ok := okSs rest d) (c := cSs rest) (mm := mSs rest) hw.2.2.2.1.1 q2 hl ⟨h1, h2⟩ ⟨by omega, by omega⟩ ⟨by omega, by omega⟩ ⟨by omega, by omega⟩ ⟨by omega, by omega⟩
            (fun n' m' x1 x2 x3 x4 => ih n' m' x1 x2 x3 x4) es 0 rfl hw.2.2.2.1.2 m h3 (by omega)
          obtain ⟨N, M, g1, g2, g3, g4⟩ := hx
          refine ⟨N, M, Ev.succ ?_, fun t => ?_, fun t1 t2 t3 => ?_, g4⟩
          · simp only [F39_j2, cond_false, hwd]
            refine Ev.bind e1 ?_
            refine Ev.bind f1 ?_
            have c1 : ¬ A1 < 0 := by omega
            have c2 : ¬ A2 < 0 := by omega
            simp only [c1, c2, decide_false, cond_false]
            refine Ev.succ ?_
            simp only [F39_j3, cond_false]
            exact g1
          · obtain ⟨x, y, z⟩ := g2 t
            simp only [Bool.and_eq_true] at x
            exact ⟨by simp [x.1, x.2, o1, o2], by omega, by omega⟩
          · simp only [Bool.and_eq_true] at t1
            obtain ⟨y, z⟩ := g3 (by simp [t1.1, t1.2.2.2]) (by omega) (by omega)
            exact ⟨by omega, by omega⟩
      have hl0 : ∀ {R : Int × Int}, Ev (fun k => F39_j1 k xs d n m (i : Int) false kd na lo es bo el) R → Ev (fun k => F39_l0 k xs d n m (i : Int)) R := by
        intro R hR
        refine Ev.succ ?_
        have c1 : ¬ d < 1 := by omega
        have c2 : ¬ kd < 1 := by omega
        have c3 : ¬ kd > 16 := by omega
        simp only [F39_l0, l69_len, lt_dec q2, cond_true, q1, Option.bind_some, c1, c2, c3, decide_false, cond_false]
        exact hR
      cases hs : shapeS kd na lo (es.length : Int) (bo.length : Int) (el.length : Int) with
      | false =>
        by_cases hlen : (es.length : Int) ≤ 2
        · obtain ⟨N, M, g1, _⟩ := hj2 hlen
          have := ref_shape (kd := kd) (na := na) (lo := lo) hw.2.1 hw.2.2.1 k1 k2 (fun _ => g1)
          rw [hs] at this
          exact RT_bad (hl0 this) fun t _ _ => by simp [okSs, okS, hs] at t
        · have := ref_shape (kd := kd) (na := na) (lo := lo) (R := (0, 0)) (d := d) (n := n) (m := m) (xs := xs) (i := (i : Int)) (es := es) (bo := bo) (el := el) hw.2.1 hw.2.2.1 k1 k2 (fun g => absurd g hlen)
          rw [hs] at this
          exact RT_bad (hl0 this) fun t _ _ => by simp [okSs, okS, hs] at t
      | true =>
        obtain ⟨N, M, g1, g2, g3, g4⟩ := hj2 (shapeS_len k1 k2 hs)
        have := ref_shape (kd := kd) (na := na) (lo := lo) hw.2.1 hw.2.2.1 k1 k2 (fun _ => g1)
        rw [hs] at this
        refine ⟨N, M, hl0 this, fun t => ?_, fun t1 t2 t3 => ?_, g4⟩
        · obtain ⟨x, y, z⟩ := g2 t
          simp only [Bool.and_eq_true] at x
          refine ⟨by simp [okSs, okS, hs, hd1, x.1, x.2.1, x.2.2.1, x.2.2.2], ?_, ?_⟩
          · simp only [cSs, cS]; omega
          · simp only [mSs, mS]; omega
        · simp only [okSs, okS, hs, Bool.true_and, Bool.and_eq_true] at t1
          simp only [cSs, cS, mSs, mS] at t2 t3 ⊢
          obtain ⟨y, z⟩ := g3 (by simp [t1.1.2.1, t1.1.2.2.1, t1.1.2.2.2, t1.2]) (by omega) (by omega)
          exact ⟨by omega, by omega⟩
end
end Go.Vm
