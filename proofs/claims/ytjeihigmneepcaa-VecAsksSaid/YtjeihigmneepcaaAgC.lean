/- Graphs: Or, Xor, Ite, All; sums of words. -/
import Derived.Test.YtjeihigmneepcaaAgB
set_option linter.unusedVariables false
set_option linter.unusedSimpArgs false
set_option linter.unusedSectionVars false
namespace Go.Vm

theorem F73_eq {l : Int} {g : List T75} (h : Rg g l) (hg : g.length ≤ 100000) (k : Nat) : F73 k l = some (fl l) := by
  have : ¬ l < 0 := by have := h.1; omega
  simp [F73, this, xor_one h.1 (by have := h.2; omega)]
theorem or_made {a b : Int} {g : List T75} {m : List (T75 × Int)} (hG : AG g m) (hg : g.length ≤ 90000) (ha : Rg g a) (hb : Rg g b) : Made (fun k => F72 k a b g m) g 1 fun ins => V ins g a || V ins g b := by
  obtain ⟨l, g', m', e1, e2, e3, e4, e5⟩ := and_made hG hg ha.fl hb.fl
  have hl := e3.len
  refine ⟨fl l, g', m', ?_, e2, e3, e4.fl, fun ins => ?_⟩
  · simp only [F72, F73_eq ha (by omega), F73_eq hb (by omega), Option.bind_some]
    refine Ev.bind e1 ?_
    simp only [F73_eq e4 (by omega), Option.bind_some]
    exact Ev.pure
  · rw [V_fl e4.1, e5]
    dsimp only
    rw [V_fl ha.1, V_fl hb.1]
    cases V ins g a <;> cases V ins g b <;> rfl
theorem xor_made {a b : Int} {g : List T75} {m : List (T75 × Int)} (hG : AG g m) (hg : g.length ≤ 80000) (ha : Rg g a) (hb : Rg g b) : Made (fun k => F74 k a b g m) g 3 fun ins => V ins g a != V ins g b := by
  obtain ⟨l, g', m', e1, e2, e3, e4, e5⟩ := and_made hG (by omega) ha hb.fl
  have hl := e3.len
  obtain ⟨l', g2, m2, f1, f2, f3, f4, f5⟩ := and_made e2 (by omega) (ha.grow e3).fl (hb.grow e3)
  have hl2 := f3.len
  obtain ⟨l3, g3, m3, h1, h2, h3, h4, h5⟩ := or_made f2 (by omega) (e4.grow f3) f4
  refine ⟨l3, g3, m3, ?_, h2, (e3.trans f3 (Nat.le_refl _)).trans h3 (by omega), h4, fun ins => ?_⟩
  · simp only [F74, F73_eq hb (by omega), Option.bind_some]
    refine Ev.bind e1 ?_
    simp only [F73_eq ha (by omega), Option.bind_some]
    refine Ev.bind f1 ?_
    refine Ev.bind h1 ?_
    exact Ev.pure
  · rw [h5]
    dsimp only
    rw [f3.V e4.2, e5, f5]
    dsimp only
    rw [V_fl ha.1, V_fl hb.1, e3.V ha.2, e3.V hb.2]
    cases V ins g a <;> cases V ins g b <;> rfl
theorem ite_made {c a b : Int} {g : List T75} {m : List (T75 × Int)} (hG : AG g m) (hg : g.length ≤ 80000) (hc : Rg g c) (ha : Rg g a) (hb : Rg g b) : Made (fun k => F49 k c a b g m) g 3 fun ins => bif V ins g c then V ins g a else V ins g b := by
  obtain ⟨l, g', m', e1, e2, e3, e4, e5⟩ := and_made hG (by omega) hc ha
  have hl := e3.len
  obtain ⟨l', g2, m2, f1, f2, f3, f4, f5⟩ := and_made e2 (by omega) (hc.grow e3).fl (hb.grow e3)
  have hl2 := f3.len
  obtain ⟨l3, g3, m3, h1, h2, h3, h4, h5⟩ := or_made f2 (by omega) (e4.grow f3) f4
  refine ⟨l3, g3, m3, ?_, h2, (e3.trans f3 (Nat.le_refl _)).trans h3 (by omega), h4, fun ins => ?_⟩
  · simp only [F49]
    refine Ev.bind e1 ?_
    simp only [F73_eq hc (by omega), Option.bind_some]
    refine Ev.bind f1 ?_
    refine Ev.bind h1 ?_
    exact Ev.pure
  · rw [h5]
    dsimp only
    rw [f3.V e4.2, e5, f5]
    dsimp only
    rw [V_fl hc.1, e3.V hc.2, e3.V hb.2]
    cases V ins g c <;> cases V ins g a <;> cases V ins g b <;> rfl

/-! ### words -/
def RgW (g : List T75) (a : List Int) : Prop := ∀ l ∈ a, Rg g l
theorem RgW.grow {g g' : List T75} {c : Nat} {a : List Int} (h : RgW g a) (k : Grow g g' c) : RgW g' a := fun l hl => (h l hl).grow k
theorem RgW.drop {g : List T75} {a : List Int} {i : Nat} (h : RgW g a) : RgW g (a.drop i) := fun l hl => h l (List.mem_of_mem_drop hl)
/-- A word's number. -/
def num (ins : List Bool) (g : List T75) : List Int → Int
  | [] => 0
  | l :: r => (if V ins g l then 1 else 0) + 2 * num ins g r
theorem num_ext {g g' : List T75} {c : Nat} (k : Grow g g' c) (ins : List Bool) : ∀ {a : List Int}, RgW g a → num ins g' a = num ins g a
  | [], _ => rfl
  | l :: r, h => by
    simp only [num]
    rw [k.V (h l (by simp)).2, num_ext k ins fun l' hl' => h l' (by simp [hl'])]
theorem num_bound (ins : List Bool) (g : List T75) : ∀ a : List Int, 0 ≤ num ins g a ∧ num ins g a < 2 ^ a.length
  | [] => by simp [num]
  | l :: r => by
    have := num_bound ins g r
    simp only [num, List.length_cons, Int.pow_succ]
    split <;> omega
theorem num_append (ins : List Bool) (g : List T75) : ∀ (a b : List Int), num ins g (a ++ b) = num ins g a + 2 ^ a.length * num ins g b
  | [], b => by simp [num]
  | l :: r, b => by
    simp only [List.cons_append, num, num_append ins g r b, List.length_cons, Int.pow_succ, Int.mul_add]
    have : 2 * (2 ^ r.length * num ins g b) = 2 ^ r.length * 2 * num ins g b := by rw [Int.mul_comm (2 ^ r.length) 2, Int.mul_assoc]
    omega

theorem all_ls {c : Nat} : ∀ (rest xs : List Int) (i : Nat) (out : Int) (g : List T75) (m : List (T75 × Int)), xs.drop i = rest → xs.length ≤ maxLen → AG g m → g.length + rest.length ≤ 70000 → Rg g out → RgW g rest →
    Made (fun k => F51_l1 k xs out (i : Int) g m) g rest.length fun ins => V ins g out && rest.all fun l => V ins g l
  | [], xs, i, out, g, m, hd, hl, hG, hg, ho, hr => by
    refine ⟨out, g, m, Ev.succ ?_, hG, Grow.refl g _, ho, fun ins => by simp⟩
    simp only [F51_l1, l2_len, ge_dec (drop_end hd), cond_false]
    exact Ev.pure
  | l :: rest, xs, i, out, g, m, hd, hl, hG, hg, ho, hr => by
    obtain ⟨h1, h2, h3⟩ := idx_drop hd
    simp only [List.length_cons] at hg
    obtain ⟨l', g', m', e1, e2, e3, e4, e5⟩ := and_made hG (by omega) ho (hr l (by simp))
    have hlen := e3.len
    have hr' : RgW g rest := fun x hx => hr x (by simp [hx])
    obtain ⟨l2, g2, m2, f1, f2, f3, f4, f5⟩ := all_ls (c := c) rest xs (i + 1) l' g' m' h3 hl e2 (by omega) e4 (hr'.grow e3)
    refine ⟨l2, g2, m2, Ev.succ ?_, f2, e3.trans f3 (by simp; omega), f4, fun ins => ?_⟩
    · simp only [F51_l1, l2_len, lt_dec h2, cond_true, h1, Option.bind_some, wrap_nat h2 hl]
      exact Ev.bind e1 f1
    · rw [f5]
      dsimp only
      rw [e5]
      have : (rest.all fun l => V ins g' l) = rest.all fun l => V ins g l := by
        rw [Bool.eq_iff_iff, List.all_eq_true, List.all_eq_true]
        exact ⟨fun h x hx => by rw [← e3.V (hr' x hx).2]; exact h x hx, fun h x hx => by rw [e3.V (hr' x hx).2]; exact h x hx⟩
      rw [this, List.all_cons, Bool.and_assoc]
theorem all_made {xs : List Int} {g : List T75} {m : List (T75 × Int)} (hl : xs.length ≤ maxLen) (hG : AG g m) (hg : g.length + xs.length ≤ 70000) (hr : RgW g xs) : Made (fun k => F51 k xs g m) g xs.length fun ins => xs.all fun l => V ins g l := by
  obtain ⟨l, g', m', e1, e2, e3, e4, e5⟩ := all_ls (c := 0) xs xs 0 1 g m rfl hl hG hg ⟨by omega, by omega⟩ hr
  exact ⟨l, g', m', by simp only [F51, F51_j0]; exact e1, e2, e3, e4, fun ins => by rw [e5]; simp [V_one]⟩

/-- The sum of two words and a bit. -/
theorem sum_ls : ∀ (ra rb xs ys : List Int) (i : Nat) (c : Int) (out : List Int) (g : List T75) (m : List (T75 × Int)), xs.drop i = ra → ys.drop i = rb → ra.length = rb.length → xs.length ≤ maxLen → AG g m → g.length + 9 * ra.length ≤ 70000 →
    out.length + ra.length ≤ 100000 → Rg g c → RgW g ra → RgW g rb →
    ∃ s c' g' m', Ev (fun k => F62_l0 k xs ys c (i : Int) g m out) (out ++ s, c', g', m') ∧ AG g' m' ∧ Grow g g' (9 * ra.length) ∧ RgW g' s ∧ s.length = ra.length ∧ Rg g' c' ∧
      ∀ ins, num ins g' s + 2 ^ ra.length * (if V ins g' c' then 1 else 0) = num ins g ra + num ins g rb + (if V ins g c then 1 else 0)
  | [], [], xs, ys, i, c, out, g, m, hd, hd', hab, hl, hG, hg, ho, hc, hra, hrb => by
    refine ⟨[], c, g, m, Ev.succ ?_, hG, Grow.refl g _, by simp [RgW], rfl, hc, fun ins => by simp [num]⟩
    simp only [F62_l0, l2_len, ge_dec (drop_end hd), cond_false, List.append_nil]
    exact Ev.pure
  | [], _ :: _, _, _, _, _, _, _, _, _, _, hab, _, _, _, _, _, _, _ => by simp at hab
  | _ :: _, [], _, _, _, _, _, _, _, _, _, hab, _, _, _, _, _, _, _ => by simp at hab
  | a :: ra, b :: rb, xs, ys, i, c, out, g, m, hd, hd', hab, hl, hG, hg, ho, hc, hra, hrb => by
    obtain ⟨h1, h2, h3⟩ := idx_drop hd
    obtain ⟨k1, k2, k3⟩ := idx_drop hd'
    simp only [List.length_cons] at hg hab ho
    have ha := hra a (by simp)
    have hb := hrb b (by simp)
    obtain ⟨h, g1, m1, a1, a2, a3, a4, a5⟩ := xor_made hG (by omega) ha hb
    have n1 := a3.len
    obtain ⟨s, g2, m2, b1, b2, b3, b4, b5⟩ := xor_made a2 (by omega) a4 (hc.grow a3)
    have n2 := b3.len
    have t2 : Grow g g2 6 := a3.trans b3 (by omega)
    obtain ⟨p, g3, m3, c1, c2, c3, c4, c5⟩ := and_made b2 (by omega) (ha.grow t2) (hb.grow t2)
    have n3 := c3.len
    have t3 : Grow g g3 7 := t2.trans c3 (by omega)
    have u3 : Grow g1 g3 4 := b3.trans c3 (by omega)
    obtain ⟨q, g4, m4, d1, d2, d3, d4, d5⟩ := and_made c2 (by omega) (a4.grow u3) (hc.grow t3)
    have n4 := d3.len
    have t4 : Grow g g4 8 := t3.trans d3 (by omega)
    obtain ⟨r, g5, m5, e1, e2, e3, e4, e5⟩ := or_made d2 (by omega) (c4.grow d3) d4
    have n5 := e3.len
    have t5 : Grow g g5 9 := t4.trans e3 (by omega)
    have hra' : RgW g ra := fun x hx => hra x (by simp [hx])
    have hrb' : RgW g rb := fun x hx => hrb x (by simp [hx])
    obtain ⟨s', c', g', m', f1, f2, f3, f4, f5, f6, f7⟩ := sum_ls ra rb xs ys (i + 1) r (out ++ [s]) g5 m5 h3 k3 (by omega) hl e2 (by omega) (by simp; omega) e4 (hra'.grow t5) (hrb'.grow t5)
    have v5 : Grow g2 g5 3 := (c3.trans d3 (Nat.le_refl _)).trans e3 (by omega)
    have v' : Grow g2 g' (3 + 9 * ra.length) := v5.trans f3 (Nat.le_refl _)
    refine ⟨s :: s', c', g', m', Ev.succ ?_, f2, t5.trans f3 (by simp; omega), fun x hx => ?_, by simp [f5], f6, fun ins => ?_⟩
    · simp only [F62_l0, l2_len, lt_dec h2, cond_true, h1, k1, Option.bind_some, wrap_nat h2 hl]
      refine Ev.bind a1 (Ev.bind b1 ?_)
      refine Ev.some_bind (appL_small (by omega) (by simp; omega)) ?_
      refine Ev.bind c1 (Ev.bind d1 (Ev.bind e1 ?_))
      simpa using f1
    · simp only [List.mem_cons] at hx
      rcases hx with rfl | hx
      · exact b4.grow v'
      · exact f4 x hx
    · have hs : V ins g' s = V ins g2 s := v'.V b4.2 ins
      have x1 := a5 ins
      have x2 := b5 ins
      have x3 := c5 ins
      have x4 := d5 ins
      have x5 := e5 ins
      have x6 := f7 ins
      dsimp only at x1 x2 x3 x4 x5
      rw [a3.V hc.2] at x2
      rw [t2.V ha.2, t2.V hb.2] at x3
      rw [u3.V a4.2, t3.V hc.2] at x4
      rw [d3.V c4.2] at x5
      rw [num_ext t5 ins hra', num_ext t5 ins hrb', x5, x3, x4, x1] at x6
      rw [x1] at x2
      simp only [num, List.length_cons, Int.pow_succ, hs, x2]
      have e0 : 2 ^ ra.length * 2 * (if V ins g' c' = true then (1 : Int) else 0) = 2 * (2 ^ ra.length * (if V ins g' c' = true then (1 : Int) else 0)) := by rw [Int.mul_comm (2 ^ ra.length) 2, Int.mul_assoc]
      rw [e0]
      revert x6
      generalize 2 ^ ra.length * (if V ins g' c' = true then (1 : Int) else 0) = z
      cases V ins g a <;> cases V ins g b <;> cases V ins g c <;> simp <;> omega
end Go.Vm
