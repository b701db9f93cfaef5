/- Words: which may be, negations, questions. -/
import Derived.Test.YtjeihigmneepcaaAgC
set_option linter.unusedVariables false
set_option linter.unusedSimpArgs false
set_option linter.unusedSectionVars false
namespace Go.Vm

instance (g : List T75) (a : List Int) : Decidable (RgW g a) := by unfold RgW; infer_instance
theorem F60_eq (k : Nat) (l : Int) (g : List T75) (m : List (T75 × Int)) (hg : g.length ≤ 100000) : F60 k l g m = some (!decide (Rg g l)) := by simp [F60, F46_eq k l g m hg]
theorem F76_ls (g : List T75) (m : List (T75 × Int)) (hg : g.length ≤ 100000) : ∀ (rest xs : List Int) (i : Nat), xs.drop i = rest → xs.length ≤ maxLen → ∃ j : Int, Ev (fun k => F76_l0 k xs g m (i : Int)) j ∧ decide (j ≥ 0) = !decide (RgW g rest)
  | [], xs, i, hd, hl => ⟨-1, Ev.succ (by simp only [F76_l0, l2_len, ge_dec (drop_end hd), cond_false]; exact Ev.pure), by simp [RgW]⟩
  | a :: rest, xs, i, hd, hl => by
    obtain ⟨h1, h2, h3⟩ := idx_drop hd
    by_cases ha : Rg g a
    · obtain ⟨j, e1, e2⟩ := F76_ls g m hg rest xs (i + 1) h3 hl
      refine ⟨j, Ev.succ ?_, ?_⟩
      · simp only [F76_l0, l2_len, lt_dec h2, cond_true, h1, Option.bind_some, F60_eq _ _ _ _ hg, ha, decide_true, Bool.not_true, cond_false, wrap_nat h2 hl]
        exact e1
      · rw [e2]
        congr 1
        apply decide_eq_decide.2
        simp [RgW, ha]
    · refine ⟨i, Ev.succ ?_, ?_⟩
      · simp only [F76_l0, l2_len, lt_dec h2, cond_true, h1, Option.bind_some, F60_eq _ _ _ _ hg, ha, decide_false, Bool.not_false]
        exact Ev.pure
      · have : ¬ RgW g (a :: rest) := fun h => ha (h a (by simp))
        simp [this]
def okW (g : List T75) (a : List Int) : Prop := 1 ≤ a.length ∧ a.length ≤ 16 ∧ RgW g a
instance (g : List T75) (a : List Int) : Decidable (okW g a) := by unfold okW; infer_instance
theorem F23_ev {g : List T75} {m : List (T75 × Int)} (hg : g.length ≤ 100000) {a : List Int} (hl : a.length ≤ maxLen) : Ev (fun k => F23 k a g m) (if okW g a then 0 else 1) := by
  have j0 : ∀ c : Bool, Ev (fun k => F23_j0 k c) (bif c then 1 else 0) := fun c => by cases c <;> exact Ev.pure
  by_cases h1 : ((a.length : Int) < 1)
  · have : ¬ okW g a := fun h => by have := h.1; omega
    simp only [F23, l2_len, h1, decide_true, cond_true, this, if_false]
    exact j0 true
  · by_cases h2 : ((a.length : Int) > 16)
    · have : ¬ okW g a := fun h => by have := h.2.1; omega
      simp only [F23, l2_len, h1, h2, decide_true, decide_false, cond_true, cond_false, this, if_false]
      exact j0 true
    · obtain ⟨j, e1, e2⟩ := F76_ls g m hg a a 0 rfl hl
      have h59 : Ev (fun k => F59 k a g m) (!decide (RgW g a)) := by
        simp only [F59]
        refine Ev.bind (a := j) (by simp only [F76]; exact e1) ?_
        simp only [e2]
        exact Ev.pure
      simp only [F23, l2_len, h1, h2, decide_false, cond_false]
      refine Ev.bind h59 ?_
      have e : okW g a ↔ RgW g a := ⟨fun h => h.2.2, fun h => ⟨by omega, by omega, h⟩⟩
      have := j0 (!decide (RgW g a))
      by_cases hr : RgW g a
      · simp only [hr, decide_true, Bool.not_true, cond_false] at this ⊢
        rw [if_pos (e.2 hr)]; exact this
      · simp only [hr, decide_false, Bool.not_false, cond_true] at this ⊢
        rw [if_neg fun h => hr (e.1 h)]; exact this
theorem F53_ev {g : List T75} {m : List (T75 × Int)} (hg : g.length ≤ 100000) {a b : List Int} (hl : a.length ≤ maxLen) (hl' : b.length ≤ maxLen) : Ev (fun k => F53 k a b g m) (decide (a.length = b.length ∧ okW g a ∧ okW g b)) := by
  by_cases h : a.length = b.length
  · simp only [F53, l2_len, h, beq_self_eq_true, cond_true]
    refine Ev.bind (F23_ev hg hl) ?_
    by_cases ha : okW g a
    · simp only [if_pos ha, beq_self_eq_true, cond_true]
      refine Ev.bind (F23_ev hg hl') ?_
      by_cases hb : okW g b <;> simp [ha, hb] <;> exact Ev.pure
    · simp only [if_neg ha]
      have : ((1 : Int) == 0) = false := rfl
      simp only [this, cond_false, ha, false_and, and_false, decide_false]
      exact Ev.pure
  · have : (((a.length : Int)) == (b.length : Int)) = false := by simp; omega
    simp only [F53, l2_len, this, cond_false, h, false_and, decide_false]
    exact Ev.pure

/-! ### all made? -/
theorem F83_no : ∀ (rest xs : List Int) (i : Nat), xs.drop i = rest → xs.length ≤ maxLen → (∀ l ∈ rest, 0 ≤ l) → Ev (fun k => F83_l0 k xs (-1) (i : Int)) (-1)
  | [], xs, i, hd, hl, h => Ev.succ (by simp only [F83_l0, l2_len, ge_dec (drop_end hd), cond_false]; exact Ev.pure)
  | a :: rest, xs, i, hd, hl, h => by
    obtain ⟨h1, h2, h3⟩ := idx_drop hd
    have hr := F83_no rest xs (i + 1) h3 hl fun l hl' => h l (by simp [hl'])
    have : ((-1 : Int) == a) = false := by have := h a (by simp); simp; omega
    refine Ev.succ ?_
    simp only [F83_l0, l2_len, lt_dec h2, cond_true, h1, Option.bind_some, this, cond_false, wrap_nat h2 hl]
    exact hr
theorem F64_ev {a : List Int} (hl : a.length ≤ maxLen) (h : ∀ l ∈ a, 0 ≤ l) : Ev (fun k => F64 k a) a := by
  simp only [F64, F77]
  refine Ev.bind (a := false) ?_ ?_
  · refine Ev.bind (a := -1) (by simp only [F83]; exact F83_no a a 0 rfl hl h) ?_
    exact Ev.pure
  · exact Ev.pure

/-! ### bit by bit -/
theorem xors_ls : ∀ (ra rb xs ys : List Int) (i : Nat) (out : List Int) (g : List T75) (m : List (T75 × Int)), xs.drop i = ra → ys.drop i = rb → ra.length = rb.length → xs.length ≤ maxLen → AG g m → g.length + 3 * ra.length ≤ 70000 →
    out.length + ra.length ≤ 100000 → RgW g ra → RgW g rb → RgW g out →
    ∃ s g' m', Ev (fun k => F47_1_l0 k xs ys (i : Int) g m out) (out ++ s, g', m') ∧ AG g' m' ∧ Grow g g' (3 * ra.length) ∧ RgW g' s ∧ s.length = ra.length ∧
      ∀ ins, ((∀ l ∈ s, V ins g' l = false) ↔ num ins g ra = num ins g rb)
  | [], [], xs, ys, i, out, g, m, hd, hd', hab, hl, hG, hg, ho, hra, hrb, hout => by
    refine ⟨[], g, m, Ev.succ ?_, hG, Grow.refl g _, by simp [RgW], rfl, fun ins => by simp [num]⟩
    simp only [F47_1_l0, l2_len, ge_dec (drop_end hd), cond_false, List.append_nil]
    refine Ev.bind (F64_ev (by simp only [maxLen]; simp at ho; omega) fun l hl => (hout l hl).1) ?_
    exact Ev.pure
  | [], _ :: _, _, _, _, _, _, _, _, _, hab, _, _, _, _, _, _, _ => by simp at hab
  | _ :: _, [], _, _, _, _, _, _, _, _, hab, _, _, _, _, _, _, _ => by simp at hab
  | a :: ra, b :: rb, xs, ys, i, out, g, m, hd, hd', hab, hl, hG, hg, ho, hra, hrb, hout => by
    obtain ⟨h1, h2, h3⟩ := idx_drop hd
    obtain ⟨k1, k2, k3⟩ := idx_drop hd'
    simp only [List.length_cons] at hg hab ho
    have ha := hra a (by simp)
    have hb := hrb b (by simp)
    obtain ⟨h, g1, m1, a1, a2, a3, a4, a5⟩ := xor_made hG (by omega) ha hb
    have n1 := a3.len
    have hra' : RgW g ra := fun x hx => hra x (by simp [hx])
    have hrb' : RgW g rb := fun x hx => hrb x (by simp [hx])
    obtain ⟨s, g', m', f1, f2, f3, f4, f5, f6⟩ := xors_ls ra rb xs ys (i + 1) (out ++ [h]) g1 m1 h3 k3 (by omega) hl a2 (by omega) (by simp; omega) (hra'.grow a3) (hrb'.grow a3) (fun x hx => by
      simp only [List.mem_append, List.mem_singleton] at hx
      rcases hx with hx | rfl
      · exact (hout.grow a3) x hx
      · exact a4)
    refine ⟨h :: s, g', m', Ev.succ ?_, f2, a3.trans f3 (by simp; omega), fun x hx => ?_, by simp [f5], fun ins => ?_⟩
    · simp only [F47_1_l0, l2_len, lt_dec h2, cond_true, h1, k1, Option.bind_some, wrap_nat h2 hl]
      refine Ev.bind a1 ?_
      refine Ev.some_bind (appL_small (by omega) (by simp; omega)) ?_
      simpa using f1
    · simp only [List.mem_cons] at hx
      rcases hx with rfl | hx
      · exact a4.grow f3
      · exact f4 x hx
    · have x1 := a5 ins
      have x2 := f6 ins
      dsimp only at x1
      rw [num_ext a3 ins hra', num_ext a3 ins hrb'] at x2
      have xh : V ins g' h = (V ins g a != V ins g b) := by rw [f3.V a4.2, x1]
      simp only [List.mem_cons, forall_eq_or_imp, xh, x2, num]
      cases V ins g a <;> cases V ins g b <;> simp <;> omega
theorem nots_ls : ∀ (ra xs ys : List Int) (i : Nat) (out : List Int) (g : List T75), xs.drop i = ra → ys.drop i = ra → xs.length ≤ maxLen → g.length ≤ 100000 → out.length + ra.length ≤ 100000 → RgW g ra → RgW g out → Ev (fun k => F47_2_l0 k xs ys (i : Int) out) (out ++ ra.map fl)
  | [], xs, ys, i, out, g, hd, hd', hl, hg, ho, hra, hout => by
    refine Ev.succ ?_
    simp only [F47_2_l0, l2_len, ge_dec (drop_end hd), cond_false, List.map_nil, List.append_nil]
    refine Ev.bind (F64_ev (by simp only [maxLen]; simp at ho; omega) fun l hl => (hout l hl).1) ?_
    exact Ev.pure
  | a :: ra, xs, ys, i, out, g, hd, hd', hl, hg, ho, hra, hout => by
    obtain ⟨h1, h2, h3⟩ := idx_drop hd
    obtain ⟨k1, k2, k3⟩ := idx_drop hd'
    simp only [List.length_cons] at ho
    have ha := hra a (by simp)
    have hx := xor_one ha.1 (by have := ha.2; omega)
    have hr := nots_ls ra xs ys (i + 1) (out ++ [fl a]) g h3 k3 hl hg (by simp; omega) (fun x hx => hra x (by simp [hx])) (fun x hx => by
      simp only [List.mem_append, List.mem_singleton] at hx
      rcases hx with hx | rfl
      · exact hout x hx
      · exact ha.fl)
    refine Ev.succ ?_
    simp only [F47_2_l0, l2_len, lt_dec h2, cond_true, h1, k1, Option.bind_some, wrap_nat h2 hl, F75, hx]
    refine Ev.some_bind (appL_small (by omega) (by simp; omega)) ?_
    simpa using hr
theorem F52_ev {g : List T75} {m : List (T75 × Int)} (hg : g.length ≤ 100000) {a : List Int} (ha : okW g a) : Ev (fun k => F52 k a g m) (a.map fl) := by
  have hl : a.length ≤ maxLen := by have := ha.2.1; simp only [maxLen]; omega
  simp only [F52, F47_2]
  refine Ev.bind ?_ Ev.pure
  refine Ev.bind (F53_ev hg hl hl) ?_
  simp only [ha, and_self, decide_true, Bool.not_true, cond_false]
  have := nots_ls a a a 0 [] g rfl rfl hl hg (by have := ha.2.1; simp; omega) ha.2.2 (by simp [RgW])
  simpa using this
theorem F63_ls : ∀ (ra xs : List Int) (i : Nat) (out : List Int) (g : List T75), xs.drop i = ra → xs.length ≤ maxLen → g.length ≤ 100000 → out.length + ra.length ≤ 100000 → RgW g ra → Ev (fun k => F63_l0 k xs (i : Int) out) (out ++ ra.map fl)
  | [], xs, i, out, g, hd, hl, hg, ho, hra => by
    refine Ev.succ ?_
    simp only [F63_l0, l2_len, ge_dec (drop_end hd), cond_false, List.map_nil, List.append_nil]
    exact Ev.pure
  | a :: ra, xs, i, out, g, hd, hl, hg, ho, hra => by
    obtain ⟨h1, h2, h3⟩ := idx_drop hd
    simp only [List.length_cons] at ho
    have ha := hra a (by simp)
    have hx := xor_one ha.1 (by have := ha.2; omega)
    have hr := F63_ls ra xs (i + 1) (out ++ [fl a]) g h3 hl hg (by simp; omega) (fun x hx => hra x (by simp [hx]))
    refine Ev.succ ?_
    simp only [F63_l0, l2_len, lt_dec h2, cond_true, h1, Option.bind_some, wrap_nat h2 hl, hx]
    refine Ev.some_bind (appL_small (by omega) (by simp; omega)) ?_
    simpa using hr
theorem RgW.map_fl {g : List T75} {a : List Int} (h : RgW g a) : RgW g (a.map fl) := fun l hl => by
  obtain ⟨x, hx, rfl⟩ := List.mem_map.1 hl
  exact (h x hx).fl
theorem num_fl (ins : List Bool) (g : List T75) : ∀ {a : List Int}, RgW g a → num ins g (a.map fl) = 2 ^ a.length - 1 - num ins g a
  | [], _ => by simp [num]
  | l :: r, h => by
    have ih := num_fl ins g (a := r) fun x hx => h x (by simp [hx])
    simp only [List.map_cons, num, ih, V_fl (h l (by simp)).1, List.length_cons, Int.pow_succ]
    cases V ins g l <;> simp <;> omega
/-- Less. -/
theorem less_made {a b : List Int} {g : List T75} {m : List (T75 × Int)} (hG : AG g m) (hg : g.length ≤ 60000) (ha : okW g a) (hb : okW g b) (hab : a.length = b.length) : Made (fun k => F13 k a b g m) g 144 fun ins => decide (num ins g a < num ins g b) := by
  have hl : a.length ≤ maxLen := by have := ha.2.1; simp only [maxLen]; omega
  have hl' : b.length ≤ maxLen := by omega
  have a16 := ha.2.1
  obtain ⟨s, c', g', m', f1, f2, f3, f4, f5, f6, f7⟩ := sum_ls a (b.map fl) a (b.map fl) 0 1 [] g m rfl rfl (by simp [hab]) hl hG (by omega) (by simp; omega) ⟨by omega, by omega⟩ ha.2.2 hb.2.2.map_fl
  have n1 := f3.len
  have hc : (c' == -1) = false := by have := f6.1; simp; omega
  have h63 : Ev (fun k => F63 k b) (b.map fl) := by
    have := F63_ls b b 0 [] g rfl hl' (by omega) (by simp; omega) hb.2.2
    simpa [F63] using this
  refine ⟨fl c', g', m', ?_, f2, ⟨by obtain ⟨h, q1, q2, q3⟩ := f3.ex; exact ⟨h, q1, by omega, q3⟩⟩, f6.fl, fun ins => ?_⟩
  · simp only [F13]
    refine Ev.bind (F53_ev (by omega) hl hl') ?_
    simp only [hab, ha, hb, and_self, decide_true, Bool.not_true, cond_false]
    refine Ev.bind (a := (fl c', g', m')) ?_ Ev.pure
    simp only [F54]
    refine Ev.bind h63 ?_
    refine Ev.bind (a := ([] ++ s, c', g', m')) (by simp only [F62]; exact f1) ?_
    simp only [hc, cond_false, xor_one f6.1 (by have := f6.2; omega)]
    exact Ev.pure
  · have x := f7 ins
    rw [num_fl ins g hb.2.2, V_one, if_pos rfl, ← hab] at x
    have b1 := num_bound ins g' s
    rw [f5] at b1
    rw [V_fl f6.1]
    generalize hP : (2 : Int) ^ a.length = P at *
    cases hv : V ins g' c' <;> rw [hv] at x <;> simp at x ⊢ <;> omega
/-- Equality. -/
theorem eq_made {a b : List Int} {g : List T75} {m : List (T75 × Int)} (hG : AG g m) (hg : g.length ≤ 60000) (ha : okW g a) (hb : okW g b) (hab : a.length = b.length) : Made (fun k => F12 k a b g m) g 64 fun ins => decide (num ins g a = num ins g b) := by
  have hl : a.length ≤ maxLen := by have := ha.2.1; simp only [maxLen]; omega
  have a16 := ha.2.1
  obtain ⟨s, g', m', f1, f2, f3, f4, f5, f6⟩ := xors_ls a b a b 0 [] g m rfl rfl hab hl hG (by omega) (by simp; omega) ha.2.2 hb.2.2 (by simp [RgW])
  have n1 := f3.len
  have hs : okW g' s := ⟨by rw [f5]; exact ha.1, by rw [f5]; exact a16, f4⟩
  obtain ⟨l, g2, m2, k1, k2, k3, k4, k5⟩ := all_made (xs := s.map fl) (by simp only [maxLen]; simp [f5]; omega) f2 (by simp [f5]; omega) f4.map_fl
  have hn : nnil s = some () := by
    cases s with
    | nil => have := ha.1; simp at f5; omega
    | cons _ _ => rfl
  refine ⟨l, g2, m2, ?_, k2, ⟨by obtain ⟨h, q1, q2, q3⟩ := (f3.trans k3 (Nat.le_refl _)).ex; exact ⟨h, q1, by simp [f5] at q2; omega, q3⟩⟩, k4, fun ins => ?_⟩
  · simp only [F12]
    refine Ev.bind (a := (s, g', m')) ?_ ?_
    · simp only [F50]
      refine Ev.bind (a := (s, g', m')) ?_ Ev.pure
      simp only [F47_1]
      refine Ev.bind (F53_ev (by omega) hl (by omega)) ?_
      simp only [hab, ha, hb, and_self, decide_true, Bool.not_true, cond_false]
      simpa using f1
    · simp only [F12_j0, hn, Option.bind_some]
      refine Ev.bind (F52_ev (by omega) hs) ?_
      exact Ev.bind k1 Ev.pure
  · rw [k5]
    have x := f6 ins
    rw [Bool.eq_iff_iff, List.all_eq_true, decide_eq_true_eq, ← x]
    constructor
    · intro h l hl
      have := h (fl l) (List.mem_map_of_mem hl)
      rw [V_fl (f4 l hl).1] at this
      simpa using this
    · intro h l hl
      obtain ⟨y, hy, rfl⟩ := List.mem_map.1 hl
      rw [V_fl (f4 y hy).1, h y hy]
      rfl
theorem num_zero (ins : List Bool) (g : List T75) : ∀ {a : List Int}, (∀ l ∈ a, V ins g l = false) ↔ num ins g a = 0
  | [] => by simp [num]
  | l :: r => by
    have ih := num_zero ins g (a := r)
    have := num_bound ins g r
    simp only [List.mem_cons, forall_eq_or_imp, num, ih]
    cases V ins g l <;> simp <;> omega
/-- Any. -/
theorem any_made {a : List Int} {g : List T75} {m : List (T75 × Int)} (hG : AG g m) (hg : g.length ≤ 60000) (ha : okW g a) : Made (fun k => F14 k a g m) g 16 fun ins => decide (num ins g a ≠ 0) := by
  have hl : a.length ≤ maxLen := by have := ha.2.1; simp only [maxLen]; omega
  have a16 := ha.2.1
  obtain ⟨l, g2, m2, k1, k2, k3, k4, k5⟩ := all_made (xs := a.map fl) (by simpa using hl) hG (by simp; omega) ha.2.2.map_fl
  have n1 := k3.len
  simp at n1
  have hc : (l == -1) = false := by have := k4.1; simp; omega
  refine ⟨fl l, g2, m2, ?_, k2, ⟨by obtain ⟨h, q1, q2, q3⟩ := k3.ex; exact ⟨h, q1, by simp at q2; omega, q3⟩⟩, k4.fl, fun ins => ?_⟩
  · simp only [F14]
    refine Ev.bind (F23_ev (by omega) hl) ?_
    simp only [if_pos ha, bne_self_eq_false, cond_false]
    refine Ev.bind (F52_ev (by omega) ha) ?_
    refine Ev.bind k1 ?_
    simp only [hc, cond_false, xor_one k4.1 (by have := k4.2; omega)]
    exact Ev.pure
  · rw [V_fl k4.1, k5]
    have x := num_zero ins g (a := a)
    by_cases h : num ins g a = 0
    · have h0 := x.2 h
      have : ((a.map fl).all fun l => V ins g l) = true := List.all_eq_true.2 fun l hl => by
        obtain ⟨y, hy, rfl⟩ := List.mem_map.1 hl
        rw [V_fl (ha.2.2 y hy).1, h0 y hy]; rfl
      simp [this, h]
    · have : ((a.map fl).all fun l => V ins g l) = false := by
        cases hh : (a.map fl).all fun l => V ins g l with
        | false => rfl
        | true =>
          exact absurd (x.1 fun l hl => by
            have := List.all_eq_true.1 hh (fl l) (List.mem_map_of_mem hl)
            rw [V_fl (ha.2.2 l hl).1] at this
            simpa using this) h
      simp [this, h]
end Go.Vm
