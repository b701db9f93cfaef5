/- Programs that are alike but for places are told alike. -/
import Derived.Test.YtafpcogpabnjmaaBaA
set_option linter.unusedVariables false
set_option linter.unusedSimpArgs false
set_option linter.unusedSectionVars false
namespace Go.Vm

theorem list_beq (s : ByteArray) : (s.toList == s.toList) = true := beq_self_eq_true _
mutual
theorem sameE : ∀ (a b : T57), bE a = bE b → w57 a → w57 b → Ev (fun k => F62 k a.f0 a.f1 a.f2 a.f3 a.f4 a.f5 b.f0 b.f1 b.f2 b.f3 b.f4 b.f5) true
  | ⟨a0, a1, a2, a3, a4, a5⟩, ⟨b0, b1, b2, b3, b4, b5⟩, e, ha, hb => by
    simp only [bE, T57.mk.injEq, and_true] at e
    obtain ⟨rfl, rfl, rfl, rfl, e4⟩ := e
    simp only [w57] at ha hb
    have hlen : a4.length = b4.length := by have := congrArg List.length e4; simpa [bEs_len] using this
    have := sameEs a4 ha.2.2.2.2.1.2 a4 b4 0 b4 rfl rfl e4 hb.2.2.2.2.1.2 ha.2.2.2.2.1.1
    refine Ev.succ ?_
    simp only [F62, beq_self_eq_true, cond_true]
    refine Ev.bind (a := true) ?_ Ev.pure
    refine Ev.succ ?_
    simp only [F84, l57_len, hlen, bne_self_eq_false, cond_false]
    exact this
theorem sameEs : ∀ (rest : List T57), ws57 rest → ∀ (xs ys : List T57) (i : Nat) (rest' : List T57), xs.drop i = rest → ys.drop i = rest' → bEs rest = bEs rest' → ws57 rest' → xs.length ≤ maxLen → Ev (fun k => F84_l0 k ys xs (i : Int)) true
  | [], h, xs, ys, i, rest', hd, hd', e, h', hl => by
    refine Ev.succ ?_
    simp only [F84_l0, l57_len, ge_dec (drop_end hd), cond_false]
    exact Ev.pure
  | a :: rest, h, xs, ys, i, [], hd, hd', e, h', hl => by simp [bEs] at e
  | a :: rest, h, xs, ys, i, b :: rest', hd, hd', e, h', hl => by
    obtain ⟨h1, h2, h3⟩ := idx_drop hd
    obtain ⟨k1, k2, k3⟩ := idx_drop hd'
    simp only [bEs, List.cons.injEq] at e
    have s1 := sameE a b e.1 h.1 h'.1
    have s2 := sameEs rest h.2 xs ys (i + 1) rest' h3 k3 e.2 h'.2 hl
    obtain ⟨a0, a1, a2, a3, a4, a5⟩ := a
    obtain ⟨b0, b1, b2, b3, b4, b5⟩ := b
    refine Ev.succ ?_
    simp only [F84_l0, l57_len, lt_dec h2, cond_true, h1, k1, Option.bind_some, wrap_nat h2 hl]
    refine Ev.bind s1 ?_
    exact s2
end
theorem F84_same (a b : List T57) (e : bEs a = bEs b) (ha : ws57 a) (hb : ws57 b) (hl : a.length ≤ maxLen) : Ev (fun k => F84 k a b) true := by
  have hlen : a.length = b.length := by have := congrArg List.length e; simpa [bEs_len] using this
  refine Ev.succ ?_
  simp only [F84, l57_len, hlen, bne_self_eq_false, cond_false]
  exact sameEs a ha a b 0 b rfl rfl e hb hl
mutual
theorem sameS : ∀ (a b : T69), bS a = bS b → w69 a → w69 b → Ev (fun k => F47 k a.f0 a.f1 a.f2 a.f3 a.f4 a.f5 a.f6 b.f0 b.f1 b.f2 b.f3 b.f4 b.f5 b.f6) true
  | ⟨a0, a1, a2, a3, a4, a5, a6⟩, ⟨b0, b1, b2, b3, b4, b5, b6⟩, e, ha, hb => by
    simp only [bS, T69.mk.injEq, and_true] at e
    obtain ⟨rfl, rfl, rfl, e3, e4, e5⟩ := e
    simp only [w69] at ha hb
    have l4 : a4.length = b4.length := by have := congrArg List.length e4; simpa [bSs_len] using this
    have l5 : a5.length = b5.length := by have := congrArg List.length e5; simpa [bSs_len] using this
    have s3 := F84_same a3 b3 e3 ha.2.2.2.1.2 hb.2.2.2.1.2 ha.2.2.2.1.1
    have s4 := sameSs a4 ha.2.2.2.2.1.2 a4 b4 0 b4 rfl rfl e4 hb.2.2.2.2.1.2 ha.2.2.2.2.1.1
    have s5 := sameSs a5 ha.2.2.2.2.2.1.2 a5 b5 0 b5 rfl rfl e5 hb.2.2.2.2.2.1.2 ha.2.2.2.2.2.1.1
    refine Ev.succ ?_
    simp only [F47, beq_self_eq_true, cond_true]
    refine Ev.bind s3 ?_
    simp only [cond_true]
    refine Ev.bind (a := true) ?_ ?_
    · refine Ev.succ ?_
      simp only [F46, l69_len, l4, bne_self_eq_false, cond_false]
      exact s4
    simp only [cond_true]
    refine Ev.bind (a := true) ?_ Ev.pure
    refine Ev.succ ?_
    simp only [F46, l69_len, l5, bne_self_eq_false, cond_false]
    exact s5
theorem sameSs : ∀ (rest : List T69), ws69 rest → ∀ (xs ys : List T69) (i : Nat) (rest' : List T69), xs.drop i = rest → ys.drop i = rest' → bSs rest = bSs rest' → ws69 rest' → xs.length ≤ maxLen → Ev (fun k => F46_l0 k ys xs (i : Int)) true
  | [], h, xs, ys, i, rest', hd, hd', e, h', hl => by
    refine Ev.succ ?_
    simp only [F46_l0, l69_len, ge_dec (drop_end hd), cond_false]
    exact Ev.pure
  | a :: rest, h, xs, ys, i, [], hd, hd', e, h', hl => by simp [bSs] at e
  | a :: rest, h, xs, ys, i, b :: rest', hd, hd', e, h', hl => by
    obtain ⟨h1, h2, h3⟩ := idx_drop hd
    obtain ⟨k1, k2, k3⟩ := idx_drop hd'
    simp only [bSs, List.cons.injEq] at e
    have s1 := sameS a b e.1 h.1 h'.1
    have s2 := sameSs rest h.2 xs ys (i + 1) rest' h3 k3 e.2 h'.2 hl
    obtain ⟨a0, a1, a2, a3, a4, a5, a6⟩ := a
    obtain ⟨b0, b1, b2, b3, b4, b5, b6⟩ := b
    refine Ev.succ ?_
    simp only [F46_l0, l69_len, lt_dec h2, cond_true, h1, k1, Option.bind_some, wrap_nat h2 hl]
    refine Ev.bind s1 ?_
    exact s2
end
theorem sameDs : ∀ (rest : List T76) (xs ys : List T76) (i : Nat) (rest' : List T76), xs.drop i = rest → ys.drop i = rest' → rest.map bD = rest'.map bD → xs.length ≤ maxLen → Ev (fun k => F42_l0 k ys xs (i : Int)) true
  | [], xs, ys, i, rest', hd, hd', e, hl => by
    refine Ev.succ ?_
    simp only [F42_l0, l76_len, ge_dec (drop_end hd), cond_false]
    exact Ev.pure
  | a :: rest, xs, ys, i, [], hd, hd', e, hl => by simp at e
  | a :: rest, xs, ys, i, b :: rest', hd, hd', e, hl => by
    obtain ⟨h1, h2, h3⟩ := idx_drop hd
    obtain ⟨k1, k2, k3⟩ := idx_drop hd'
    simp only [List.map_cons, List.cons.injEq] at e
    have s2 := sameDs rest xs ys (i + 1) rest' h3 k3 e.2 hl
    obtain ⟨a0, a1, a2, a3⟩ := a
    obtain ⟨b0, b1, b2, b3⟩ := b
    have e1 := e.1
    simp only [bD, T76.mk.injEq, and_true] at e1
    obtain ⟨rfl, rfl, rfl⟩ := e1
    refine Ev.succ ?_
    simp only [F42_l0, l76_len, lt_dec h2, cond_true, h1, k1, Option.bind_some, wrap_nat h2 hl, F43, beq_self_eq_true, Bool.not_true, cond_false]
    exact s2
theorem samePs : ∀ (rest : List T34), ws34 rest → ∀ (xs ys : List T34) (i : Nat) (rest' : List T34), xs.drop i = rest → ys.drop i = rest' → rest.map bP = rest'.map bP → ws34 rest' → xs.length ≤ maxLen → Ev (fun k => F44_l0 k ys xs (i : Int)) true
  | [], h, xs, ys, i, rest', hd, hd', e, h', hl => by
    refine Ev.succ ?_
    simp only [F44_l0, l34_len, ge_dec (drop_end hd), cond_false]
    exact Ev.pure
  | a :: rest, h, xs, ys, i, [], hd, hd', e, h', hl => by simp at e
  | a :: rest, h, xs, ys, i, b :: rest', hd, hd', e, h', hl => by
    obtain ⟨h1, h2, h3⟩ := idx_drop hd
    obtain ⟨k1, k2, k3⟩ := idx_drop hd'
    simp only [List.map_cons, List.cons.injEq] at e
    have s2 := samePs rest h.2 xs ys (i + 1) rest' h3 k3 e.2 h'.2 hl
    obtain ⟨a0, a1, a2⟩ := a
    obtain ⟨b0, b1, b2⟩ := b
    have e1 := e.1
    simp only [bP, T34.mk.injEq, and_true] at e1
    obtain ⟨rfl, e1⟩ := e1
    have wa := h.1
    have wb := h'.1
    simp only [w34] at wa wb
    have l1 : a1.length = b1.length := by have := congrArg List.length e1; simpa [bSs_len] using this
    refine Ev.succ ?_
    simp only [F44_l0, l34_len, lt_dec h2, cond_true, h1, k1, Option.bind_some, wrap_nat h2 hl, F45, beq_self_eq_true]
    refine Ev.bind (a := true) ?_ ?_
    · refine Ev.bind (a := true) ?_ Ev.pure
      refine Ev.succ ?_
      simp only [F46, l69_len, l1, bne_self_eq_false, cond_false]
      exact sameSs a1 wa.2.1.2 a1 b1 0 b1 rfl rfl e1 wb.2.1.2 wa.2.1.1
    · exact s2
theorem F19_same (w : Int) (ds ds' : List T76) (ps ps' : List T34) (hd : ds.map bD = ds'.map bD) (hp : ps.map bP = ps'.map bP) (wp : ws34 ps) (wp' : ws34 ps') (ld : ds.length ≤ maxLen) (lp : ps.length ≤ maxLen)
    (c1 : Ev (fun k => F14 k w ds ps) 0) (c2 : Ev (fun k => F14 k w ds' ps') 0) : Ev (fun k => F19 k w ds ps w ds' ps') true := by
  simp only [F19]
  refine Ev.bind c1 ?_
  simp only [bne_self_eq_false, cond_false]
  refine Ev.bind c2 ?_
  simp only [bne_self_eq_false, cond_false, F19_j0]
  have l1 : ds.length = ds'.length := by simpa using congrArg List.length hd
  have l2 : ps.length = ps'.length := by simpa using congrArg List.length hp
  refine Ev.bind (a := true) ?_ ?_
  · simp only [F42, l76_len, l1, bne_self_eq_false, cond_false]
    exact sameDs ds ds ds' 0 ds' rfl rfl hd ld
  simp only [cond_true]
  refine Ev.bind (a := true) ?_ Ev.pure
  simp only [F44, l34_len, l2, bne_self_eq_false, cond_false]
  exact samePs ps wp ps ps' 0 ps' rfl rfl hp wp' lp

/-! ### what is bare, twice, is bare -/
mutual
theorem bE_bE : ∀ e : T57, bE (bE e) = bE e
  | ⟨a, b, c, d, l, f⟩ => by simp only [bE, bEs_bEs l]
theorem bEs_bEs : ∀ l : List T57, bEs (bEs l) = bEs l
  | [] => rfl
  | e :: r => by simp only [bEs, bE_bE e, bEs_bEs r]
end
mutual
theorem bS_bS : ∀ e : T69, bS (bS e) = bS e
  | ⟨a, b, c, d, e, f, g⟩ => by simp only [bS, bEs_bEs d, bSs_bSs e, bSs_bSs f]
theorem bSs_bSs : ∀ l : List T69, bSs (bSs l) = bSs l
  | [] => rfl
  | e :: r => by simp only [bSs, bS_bS e, bSs_bSs r]
end
theorem bD_bD (x : T76) : bD (bD x) = bD x := rfl
theorem bP_bP (x : T34) : bP (bP x) = bP x := by simp only [bP, bSs_bSs]

mutual
theorem okE_b : ∀ (e : T57) (d : Int), okE (bE e) d = okE e d
  | ⟨a, b, c, d', l, f⟩, d => by simp only [bE, okE, bEs_len, okEs_b l]
theorem okEs_b : ∀ (l : List T57) (d : Int), okEs (bEs l) d = okEs l d
  | [], d => rfl
  | e :: r, d => by simp only [bEs, okEs, okE_b e, okEs_b r]
end
mutual
theorem cE_b : ∀ (e : T57), cE (bE e) = cE e
  | ⟨a, b, c, d', l, f⟩ => by simp only [bE, cE, cEs_b l]
theorem cEs_b : ∀ (l : List T57), cEs (bEs l) = cEs l
  | [] => rfl
  | e :: r => by simp only [bEs, cEs, cE_b e, cEs_b r]
end
mutual
theorem okS_b : ∀ (e : T69) (d : Int), okS (bS e) d = okS e d
  | ⟨a, b, c, d', l, f, g⟩, d => by simp only [bS, okS, bEs_len, bSs_len, okEs_b d', okSs_b l, okSs_b f]
theorem okSs_b : ∀ (l : List T69) (d : Int), okSs (bSs l) d = okSs l d
  | [], d => rfl
  | e :: r, d => by simp only [bSs, okSs, okS_b e, okSs_b r]
end
mutual
theorem cS_b : ∀ (e : T69), cS (bS e) = cS e ∧ mS (bS e) = mS e
  | ⟨a, b, c, d', l, f, g⟩ => by
    obtain ⟨h1, h2⟩ := cSs_b l
    obtain ⟨h3, h4⟩ := cSs_b f
    simp only [bS, cS, mS, cEs_b d', h1, h2, h3, h4, and_self]
theorem cSs_b : ∀ (l : List T69), cSs (bSs l) = cSs l ∧ mSs (bSs l) = mSs l
  | [] => ⟨rfl, rfl⟩
  | e :: r => by
    obtain ⟨h1, h2⟩ := cS_b e
    obtain ⟨h3, h4⟩ := cSs_b r
    simp only [bSs, cSs, mSs, h1, h2, h3, h4, and_self]
end
theorem zero_i64 : IntKind.min .i64 ≤ 0 ∧ 0 ≤ IntKind.max .i64 := by decide
mutual
theorem w57_b : ∀ e : T57, w57 e → w57 (bE e)
  | ⟨a, b, c, d, l, f⟩, h => by
    simp only [bE, w57, bEs_len] at h ⊢
    exact ⟨h.1, h.2.1, h.2.2.1, h.2.2.2.1, ⟨h.2.2.2.2.1.1, ws57_b l h.2.2.2.2.1.2⟩, zero_i64⟩
theorem ws57_b : ∀ l : List T57, ws57 l → ws57 (bEs l)
  | [], _ => trivial
  | e :: r, h => ⟨w57_b e h.1, ws57_b r h.2⟩
end
mutual
theorem w69_b : ∀ e : T69, w69 e → w69 (bS e)
  | ⟨a, b, c, d, e, f, g⟩, h => by
    simp only [bS, w69, bEs_len, bSs_len] at h ⊢
    exact ⟨h.1, h.2.1, h.2.2.1, ⟨h.2.2.2.1.1, ws57_b d h.2.2.2.1.2⟩, ⟨h.2.2.2.2.1.1, ws69_b e h.2.2.2.2.1.2⟩, ⟨h.2.2.2.2.2.1.1, ws69_b f h.2.2.2.2.2.1.2⟩, zero_i64⟩
theorem ws69_b : ∀ l : List T69, ws69 l → ws69 (bSs l)
  | [], _ => trivial
  | e :: r, h => ⟨w69_b e h.1, ws69_b r h.2⟩
end
theorem ws76_b : ∀ l : List T76, ws76 l → ws76 (l.map bD)
  | [], _ => trivial
  | ⟨a, b, c, d⟩ :: r, h => ⟨by have := h.1; simp only [w76] at this ⊢; exact ⟨this.1, this.2.1, this.2.2.1, zero_i64⟩, ws76_b r h.2⟩
theorem ws34_b : ∀ l : List T34, ws34 l → ws34 (l.map bP)
  | [], _ => trivial
  | ⟨a, b, c⟩ :: r, h => ⟨by have := h.1; simp only [w34] at this ⊢; exact ⟨this.1, ⟨(bSs_len b).symm ▸ this.2.1.1, ws69_b b this.2.1.2⟩, zero_i64⟩, ws34_b r h.2⟩
theorem okD_b : ∀ l : List T76, (l.map bD).all okD = l.all okD
  | [] => rfl
  | ⟨a, b, c, d⟩ :: r => by simp only [List.map_cons, List.all_cons, okD_b r]; rfl
theorem okP_b : ∀ l : List T34, okP (l.map bP) = okP l
  | [] => rfl
  | ⟨a, b, c⟩ :: r => by simp only [List.map_cons, okP, okP_b r, bP, okSs_b]
theorem cP_b : ∀ l : List T34, cP (l.map bP) = cP l ∧ mP (l.map bP) = mP l
  | [] => ⟨rfl, rfl⟩
  | ⟨a, b, c⟩ :: r => by
    obtain ⟨h1, h2⟩ := cP_b r
    simp only [List.map_cons, cP, mP, h1, h2, bP, cSs_b, and_self]

/-! ### all places are 0 -/
mutual
theorem F85_e : ∀ e : T57, w57 e → Ev (fun k => F85 k (bE e).f4) true ∧ (bE e).f5 = 0
  | ⟨a, b, c, d, l, f⟩, h => by
    simp only [w57] at h
    have := F85_ls l h.2.2.2.2.1.2 (bEs l) 0 rfl (by rw [bEs_len]; exact h.2.2.2.2.1.1)
    exact ⟨Ev.succ (by simp only [F85, bE]; exact this), rfl⟩
theorem F85_ls : ∀ (rest : List T57), ws57 rest → ∀ (xs : List T57) (i : Nat), xs.drop i = bEs rest → xs.length ≤ maxLen → Ev (fun k => F85_l0 k xs (i : Int)) true
  | [], h, xs, i, hd, hl => by
    refine Ev.succ ?_
    simp only [bEs] at hd
    simp only [F85_l0, l57_len, ge_dec (drop_end hd), cond_false]
    exact Ev.pure
  | e :: rest, h, xs, i, hd, hl => by
    simp only [bEs] at hd
    obtain ⟨h1, h2, h3⟩ := idx_drop hd
    obtain ⟨e1, e2⟩ := F85_e e h.1
    have hr := F85_ls rest h.2 xs (i + 1) h3 hl
    generalize bE e = z at *
    obtain ⟨a, b, c, d, l, f⟩ := z
    simp only at e2
    subst e2
    refine Ev.succ ?_
    simp only [F85_l0, l57_len, lt_dec h2, cond_true, h1, Option.bind_some, bne_self_eq_false, cond_false]
    refine Ev.bind e1 ?_
    refine Ev.succ ?_
    simp only [F85_j1, Bool.not_true, cond_false, wrap_nat h2 hl]
    exact hr
end
theorem F85_ev (l : List T57) (h : ws57 l) (hl : l.length ≤ maxLen) : Ev (fun k => F85 k (bEs l)) true :=
  Ev.succ (by simp only [F85]; exact F85_ls l h (bEs l) 0 rfl (by rw [bEs_len]; exact hl))
mutual
theorem F48_s : ∀ e : T69, w69 e → Ev (fun k => F85 k (bS e).f3) true ∧ Ev (fun k => F48 k (bS e).f4) true ∧ Ev (fun k => F48 k (bS e).f5) true ∧ (bS e).f6 = 0
  | ⟨a, b, c, d, e, f, g⟩, h => by
    simp only [w69] at h
    have h1 := F85_ev d h.2.2.2.1.2 h.2.2.2.1.1
    have h2 := F48_ls e h.2.2.2.2.1.2 (bSs e) 0 rfl (by rw [bSs_len]; exact h.2.2.2.2.1.1)
    have h3 := F48_ls f h.2.2.2.2.2.1.2 (bSs f) 0 rfl (by rw [bSs_len]; exact h.2.2.2.2.2.1.1)
    exact ⟨h1, Ev.succ (by simp only [F48, bS]; exact h2), Ev.succ (by simp only [F48, bS]; exact h3), rfl⟩
theorem F48_ls : ∀ (rest : List T69), ws69 rest → ∀ (xs : List T69) (i : Nat), xs.drop i = bSs rest → xs.length ≤ maxLen → Ev (fun k => F48_l0 k xs (i : Int)) true
  | [], h, xs, i, hd, hl => by
    refine Ev.succ ?_
    simp only [bSs] at hd
    simp only [F48_l0, l69_len, ge_dec (drop_end hd), cond_false]
    exact Ev.pure
  | e :: rest, h, xs, i, hd, hl => by
    simp only [bSs] at hd
    obtain ⟨h1, h2, h3⟩ := idx_drop hd
    obtain ⟨e1, e2, e3, e4⟩ := F48_s e h.1
    have hr := F48_ls rest h.2 xs (i + 1) h3 hl
    generalize bS e = z at *
    obtain ⟨a, b, c, d, l, f, g⟩ := z
    simp only at e4
    subst e4
    refine Ev.succ ?_
    simp only [F48_l0, l69_len, lt_dec h2, cond_true, h1, Option.bind_some, bne_self_eq_false, cond_false]
    refine Ev.bind e2 ?_
    simp only [Bool.not_true, cond_false]
    refine Ev.bind e3 ?_
    simp only [Bool.not_true, cond_false]
    refine Ev.bind e1 ?_
    refine Ev.succ ?_
    simp only [F48_j1, Bool.not_true, cond_false, wrap_nat h2 hl]
    exact hr
end
theorem F20_l1_ev : ∀ (rest : List T34), ws34 rest → ∀ (xs : List T34) (i : Nat), xs.drop i = rest.map bP → xs.length ≤ maxLen → Ev (fun k => F20_l1 k xs (i : Int)) true
  | [], h, xs, i, hd, hl => by
    refine Ev.succ ?_
    simp only [F20_l1, l34_len, ge_dec (drop_end hd), cond_false]
    exact Ev.pure
  | ⟨a, b, c⟩ :: rest, h, xs, i, hd, hl => by
    simp only [List.map_cons] at hd
    obtain ⟨h1, h2, h3⟩ := idx_drop hd
    have hr := F20_l1_ev rest h.2 xs (i + 1) h3 hl
    have hw := h.1
    simp only [w34] at hw
    have e1 := F48_ls b hw.2.1.2 (bSs b) 0 rfl (by rw [bSs_len]; exact hw.2.1.1)
    refine Ev.succ ?_
    simp only [F20_l1, l34_len, lt_dec h2, cond_true, h1, Option.bind_some, bP, bne_self_eq_false, cond_false]
    refine Ev.bind (a := true) (Ev.succ (by simp only [F48]; exact e1)) ?_
    refine Ev.succ ?_
    simp only [F20_j2, Bool.not_true, cond_false, wrap_nat h2 hl]
    exact hr
theorem F20_l0_ev {ps : List T34} {R : Bool} (hgo : Ev (fun k => F20_l1 k ps 0) R) : ∀ (rest xs : List T76) (i : Nat), xs.drop i = rest.map bD → xs.length ≤ maxLen → Ev (fun k => F20_l0 k xs ps (i : Int)) R
  | [], xs, i, hd, hl => by
    refine Ev.succ ?_
    simp only [F20_l0, l76_len, ge_dec (drop_end hd), cond_false]
    exact hgo
  | ⟨a, b, c, d⟩ :: rest, xs, i, hd, hl => by
    simp only [List.map_cons] at hd
    obtain ⟨h1, h2, h3⟩ := idx_drop hd
    have hr := F20_l0_ev hgo rest xs (i + 1) h3 hl
    refine Ev.succ ?_
    simp only [F20_l0, l76_len, lt_dec h2, cond_true, h1, Option.bind_some, bD, bne_self_eq_false, cond_false, wrap_nat h2 hl]
    exact hr
end Go.Vm
