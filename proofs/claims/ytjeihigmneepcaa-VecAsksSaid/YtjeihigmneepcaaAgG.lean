/- VecAsks: all answers are as asked. -/
import Derived.Test.YtjeihigmneepcaaAgF
set_option linter.unusedVariables false
set_option linter.unusedSimpArgs false
set_option linter.unusedSectionVars false
namespace Go.Vm

theorem words_ev {a b fx : Int} (ha0 : 0 ≤ a) (ha1 : a ≤ 65535) (hb0 : 0 ≤ b) (hb1 : b ≤ 65535) {w : Nat} (hw1 : 1 ≤ w) (hw : w ≤ 8) :
    ∃ sa sb ins g, Ev (fun k => F8 k a b fx (w : Int)) (sa, sb, ins, g) ∧ AG g [] ∧ g.length ≤ 16 ∧ ins.length ≤ 16 ∧ nI g = ins.length ∧ okW g sa ∧ okW g sb ∧ sa.length = w ∧ sb.length = w ∧ ∀ more, num (ins ++ more) g sa = a % 2 ^ w ∧ num (ins ++ more) g sb = b % 2 ^ w := by
  have hp : (0 : Int) < 2 ^ w := Int.pow_pos (by omega)
  have a1 := Int.emod_nonneg a (show (2 : Int) ^ w ≠ 0 by omega)
  have a2 := Int.emod_lt_of_pos a hp
  have b1 := Int.emod_nonneg b (show (2 : Int) ^ w ≠ 0 by omega)
  have b2 := Int.emod_lt_of_pos b hp
  have hpw : (2 : Int) ^ w ≤ 256 := by
    have : ∀ i : Nat, i ≤ 8 → (2 : Int) ^ i ≤ 256 := by decide
    exact this w hw
  have hG : AG [] [] := ⟨fun i n h => by simp at h, fun p h => by simp at h⟩
  obtain ⟨s, t, h, f1, f2, f3, f4, f5, f6, f7, f8⟩ := word_ls (v := a % 2 ^ w) (fx := fx) (m := []) a1 (by omega) (w := w) (by omega) w 0 [] [] [] (by omega) hG (by simp; omega) rfl (by simp; omega) rfl (by simp [RgW])
  simp only [List.nil_append] at f1 f2 f4 f5 f8
  obtain ⟨s', t', h', g1, g2, g3, g4, g5, g6, g7, g8⟩ := word_ls (v := b % 2 ^ w) (fx := Int.fdiv fx (2 ^ 16)) (m := []) b1 (by omega) (w := w) (by omega) w 0 [] t h (by omega) f2 (by omega) f4 (by omega) rfl (by simp [RgW])
  simp only [List.nil_append] at g1
  refine ⟨s, s', t ++ t', h ++ h', ?_, g2, by simp; omega, by simp; omega, g4, ⟨by omega, by omega, f5.app h'⟩, ⟨by omega, by omega, g5⟩, f6, g6, fun more => ⟨?_, ?_⟩⟩
  · simp only [F8, F41, Option.bind_some, wrap_small (show -1000000000 ≤ a by omega) (by omega), wrap_small (show -1000000000 ≤ b by omega) (by omega), F9_eq _ (show w < 17 by omega) ha0, F9_eq _ (show w < 17 by omega) hb0]
    refine Ev.bind (a := (s, t, h)) (by simp only [F42]; exact f1) ?_
    refine Ev.bind (a := (s', t ++ t', h ++ h')) (by simp only [F42]; exact g1) ?_
    exact Ev.pure
  · rw [num_app h' _ f5, List.append_assoc, f8, Int.pow_zero, Int.ediv_one]
    exact Int.emod_eq_of_lt a1 a2
  · rw [g8, Int.pow_zero, Int.ediv_one]
    exact Int.emod_eq_of_lt b1 b2
theorem told_ls {p r : Bool} {wd A B : Int} {word : List Int} {ins : List Bool} {g : List T75} {m : List (T75 × Int)} (hg : g.length ≤ 90000) (fin : Ev (fun k => F3_j2 k wd word (bif p then A else B) g m ins) r) :
    ∀ (rl : List Int) (rw : List Bool) (ls : List Int) (ws : List Bool) (i : Nat), ls.drop i = rl → ws.drop i = rw → ws.length ≤ 1000 → RgW g rl → rl.map (V ins g) = rw → Ev (fun k => F3_l0 k p wd A B word ls ws (vals ins g) (i : Int) g m ins) r
  | [], rw, ls, ws, i, hd, hd', hl, hr, hv => by
    simp only [List.map_nil] at hv
    subst hv
    refine Ev.succ ?_
    simp only [F3_l0, l4_len, ge_dec (drop_end hd'), cond_false]
    cases p <;> simpa using fin
  | l :: rl, rw, ls, ws, i, hd, hd', hl, hr, hv => by
    simp only [List.map_cons] at hv
    subst hv
    obtain ⟨h1, h2, h3⟩ := idx_drop hd
    obtain ⟨k1, k2, k3⟩ := idx_drop hd'
    have hvl := vals_len ins g
    have hrl := hr l (by simp)
    have ih := told_ls hg fin rl _ ls ws (i + 1) h3 k3 hl (fun x hx => hr x (by simp [hx])) rfl
    have c : decide (l < 0) = false := by have := hrl.1; simp; omega
    have hV : litV (vals ins g) l = V ins g l := rfl
    refine Ev.succ ?_
    simp only [F3_l0, l4_len, lt_dec k2, cond_true, h1, k1, Option.bind_some, c, cond_false, F17_eq _ (show (vals ins g).length ≤ 100000 by omega) hrl.1 (by rw [hvl]; exact hrl.2), hV, beq_self_eq_true, Bool.not_true]
    refine Ev.succ ?_
    simp only [F3_j1, cond_false, wrap_nat k2 (by simp only [maxLen]; omega)]
    exact ih
theorem asks {a b fx wd : Int} {p : Bool} (ha0 : 0 ≤ a) (ha1 : a ≤ 65535) (hb0 : 0 ≤ b) (hb1 : b ≤ 65535) (hw0 : 0 ≤ wd) (hw1 : wd ≤ 255) : ∃ k, F3 k a b fx wd p = some true := by
  refine Ev.get (f := fun k => F3 k a b fx wd p) ?_
  obtain ⟨w, hw⟩ : ∃ w : Nat, 1 + wd % 8 = (w : Int) := ⟨(1 + wd % 8).toNat, by omega⟩
  have e : IntKind.wrap .i64 (1 + IntKind.wrap .i64 (Int.tmod wd 8)) = (w : Int) := by
    rw [Int.tmod_eq_emod_of_nonneg hw0, wrap_small (show -1000000000 ≤ wd % 8 by omega) (by omega), wrap_small (by omega) (by omega), hw]
  obtain ⟨sa, sb, ins, g, f1, f2, f3, f4, f5, f6, f7, f8, f9, f10⟩ := words_ev (fx := fx) ha0 ha1 hb0 hb1 (w := w) (by omega) (by omega)
  have hG3 := f2.input
  have hc : Rg (g ++ [⟨-1, -1⟩]) (2 * ((g.length : Int) + 1)) := ⟨by omega, by simp; omega⟩
  have oa : okW (g ++ [⟨-1, -1⟩]) sa := ⟨f6.1, f6.2.1, f6.2.2.app _⟩
  have ob : okW (g ++ [⟨-1, -1⟩]) sb := ⟨f7.1, f7.2.1, f7.2.2.app _⟩
  have gl : (g ++ [(⟨-1, -1⟩ : T75)]).length ≤ 17 := by simp; omega
  have nA : num (ins ++ [p]) (g ++ [⟨-1, -1⟩]) sa = a % 2 ^ w := by rw [num_app _ _ f6.2.2]; exact (f10 [p]).1
  have nB : num (ins ++ [p]) (g ++ [⟨-1, -1⟩]) sb = b % 2 ^ w := by rw [num_app _ _ f7.2.2]; exact (f10 [p]).2
  have vC : V (ins ++ [p]) (g ++ [⟨-1, -1⟩]) (2 * ((g.length : Int) + 1)) = p := by
    rw [V_input, f5]; simp [List.getD_eq_getElem?_getD]
  generalize hgg : g ++ [(⟨-1, -1⟩ : T75)] = g3 at *
  generalize hcc : 2 * ((g.length : Int) + 1) = c at *
  obtain ⟨s, g4, m4, i1, i2, i3, i4, i5, i6⟩ := ite_word hG3 (by omega) hc oa ob (by omega)
  have n4 := i3.len
  have oa4 : okW g4 sa := ⟨f6.1, f6.2.1, oa.2.2.grow i3⟩
  have ob4 : okW g4 sb := ⟨f7.1, f7.2.1, ob.2.2.grow i3⟩
  obtain ⟨l1, g5, m5, j1, j2, j3, j4, j5⟩ := eq_made i2 (by omega) oa4 ob4 (by omega)
  have n5 := j3.len
  have oa5 : okW g5 sa := ⟨f6.1, f6.2.1, oa4.2.2.grow j3⟩
  have ob5 : okW g5 sb := ⟨f7.1, f7.2.1, ob4.2.2.grow j3⟩
  obtain ⟨l2, g6, m6, k1, k2, k3, k4, k5⟩ := less_made j2 (by omega) oa5 ob5 (by omega)
  have n6 := k3.len
  have oa6 : okW g6 sa := ⟨f6.1, f6.2.1, oa5.2.2.grow k3⟩
  obtain ⟨l3, g7, m7, q1, q2, q3, q4, q5⟩ := any_made k2 (by omega) oa6
  have n7 := q3.len
  have nA4 : num (ins ++ [p]) g4 sa = a % 2 ^ w := by rw [num_ext i3 _ oa.2.2, nA]
  have nB4 : num (ins ++ [p]) g4 sb = b % 2 ^ w := by rw [num_ext i3 _ ob.2.2, nB]
  have nA5 : num (ins ++ [p]) g5 sa = a % 2 ^ w := by rw [num_ext j3 _ oa4.2.2, nA4]
  have nB5 : num (ins ++ [p]) g5 sb = b % 2 ^ w := by rw [num_ext j3 _ ob4.2.2, nB4]
  have nA6 : num (ins ++ [p]) g6 sa = a % 2 ^ w := by rw [num_ext k3 _ oa5.2.2, nA5]
  have v1 : V (ins ++ [p]) g7 l1 = (a % 2 ^ w == b % 2 ^ w) := by
    rw [q3.V (j4.grow k3).2, k3.V j4.2, j5]; dsimp only; rw [nA4, nB4]; rfl
  have v2 : V (ins ++ [p]) g7 l2 = decide (a % 2 ^ w < b % 2 ^ w) := by
    rw [q3.V k4.2, k5]; dsimp only; rw [nA5, nB5]
  have v3 : V (ins ++ [p]) g7 l3 = (a % 2 ^ w != 0) := by
    rw [q5]; dsimp only; rw [nA6]; by_cases h : a % 2 ^ w = 0 <;> simp [h]
  have oS : okW g7 s := ⟨i4.1, i4.2.1, ((i4.2.2.grow j3).grow k3).grow q3⟩
  have nS : num (ins ++ [p]) g7 s = bif p then a % 2 ^ w else b % 2 ^ w := by
    rw [num_ext q3 _ ((i4.2.2.grow j3).grow k3), num_ext k3 _ (i4.2.2.grow j3), num_ext j3 _ i4.2.2, i6, vC, nA, nB]
  have il : (ins ++ [p]).length ≤ 17 := by simp; omega
  have fin : Ev (fun k => F3_j2 k wd s (bif p then a % 2 ^ w else b % 2 ^ w) g7 m7 (ins ++ [p])) true := by
    simp only [F3_j2, e]
    refine Ev.bind (is_ev q2 (by omega) (by omega) oS (by omega) nS) ?_
    simp only [cond_true]
    exact Ev.bind awake_ev Ev.pure
  have tl := told_ls (by omega : g7.length ≤ 90000) fin [l1, l2, l3] _ [l1, l2, l3] [(a % 2 ^ w == b % 2 ^ w), decide (a % 2 ^ w < b % 2 ^ w), (a % 2 ^ w != 0)] 0 rfl rfl (by simp) (fun x hx => by
    simp only [List.mem_cons, List.not_mem_nil, or_false] at hx
    rcases hx with rfl | rfl | rfl
    · exact (j4.grow k3).grow q3
    · exact k4.grow q3
    · exact q4) (by simp only [List.map_cons, List.map_nil, v1, v2, v3]; rfl)
  simp only [F3, e, wrap_small (show -1000000000 ≤ a by omega) (by omega), wrap_small (show -1000000000 ≤ b by omega) (by omega), F9_eq _ (show w < 17 by omega) ha0, F9_eq _ (show w < 17 by omega) hb0]
  refine Ev.bind f1 ?_
  simp only [Option.bind_some, F10_eq _ g [] (show g.length ≤ 90000 by omega), hgg, hcc]
  refine Ev.some_bind (appL_small (by omega) (by simp; omega)) ?_
  refine Ev.some_bind (appL_small (by omega) (by simp; omega)) ?_
  simp only [List.nil_append]
  refine Ev.bind i1 ?_
  refine Ev.bind j1 ?_
  refine Ev.bind k1 ?_
  refine Ev.bind q1 ?_
  simp only [clone_ev m7 (show g7.length ≤ 100000 by omega), Option.bind_some]
  refine Ev.bind (eval_ev q2 (by omega) (by omega)) ?_
  exact tl
theorem plainVA (y0 : T24) (y1 : Int) (y2 : Bool) (h0 : w24 y0) (h1 : w5 y1) (h2 : w4 y2) : ∃ k, F3 k y0.f0 y0.f1 y0.f2 y1 y2 = some true := by
  obtain ⟨a, b, f⟩ := y0
  simp only [w24] at h0
  obtain ⟨⟨a0, a1⟩, ⟨b0, b1⟩, _⟩ := h0
  obtain ⟨c0, c1⟩ := h1
  exact asks a0 a1 b0 b1 c0 c1
end Go.Vm
