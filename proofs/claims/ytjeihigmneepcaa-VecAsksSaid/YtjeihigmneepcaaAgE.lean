/- Words chosen, graphs evaluated, numbers read. -/
import Derived.Test.YtjeihigmneepcaaAgD
set_option linter.unusedVariables false
set_option linter.unusedSimpArgs false
set_option linter.unusedSectionVars false
namespace Go.Vm

theorem ites_ls {c : Int} : ∀ (ra rb xs ys : List Int) (i : Nat) (out : List Int) (g : List T75) (m : List (T75 × Int)), xs.drop i = ra → ys.drop i = rb → ra.length = rb.length → xs.length ≤ maxLen → AG g m → g.length + 3 * ra.length ≤ 70000 →
    out.length + ra.length ≤ 100000 → Rg g c → RgW g ra → RgW g rb → RgW g out →
    ∃ s g' m', Ev (fun k => F47_l0 k xs ys c (i : Int) g m out) (out ++ s, g', m') ∧ AG g' m' ∧ Grow g g' (3 * ra.length) ∧ RgW g' s ∧ s.length = ra.length ∧
      ∀ ins, num ins g' s = bif V ins g c then num ins g ra else num ins g rb
  | [], [], xs, ys, i, out, g, m, hd, hd', hab, hl, hG, hg, ho, hc, hra, hrb, hout => by
    refine ⟨[], g, m, Ev.succ ?_, hG, Grow.refl g _, by simp [RgW], rfl, fun ins => by cases V ins g c <;> simp [num]⟩
    simp only [F47_l0, l2_len, ge_dec (drop_end hd), cond_false, List.append_nil]
    refine Ev.bind (F64_ev (by simp only [maxLen]; simp at ho; omega) fun l hl => (hout l hl).1) ?_
    exact Ev.pure
  | [], _ :: _, _, _, _, _, _, _, _, _, hab, _, _, _, _, _, _, _, _ => by simp at hab
  | _ :: _, [], _, _, _, _, _, _, _, _, hab, _, _, _, _, _, _, _, _ => by simp at hab
  | a :: ra, b :: rb, xs, ys, i, out, g, m, hd, hd', hab, hl, hG, hg, ho, hc, hra, hrb, hout => by
    obtain ⟨h1, h2, h3⟩ := idx_drop hd
    obtain ⟨k1, k2, k3⟩ := idx_drop hd'
    simp only [List.length_cons] at hg hab ho
    have ha := hra a (by simp)
    have hb := hrb b (by simp)
    obtain ⟨h, g1, m1, a1, a2, a3, a4, a5⟩ := ite_made hG (by omega) hc ha hb
    have n1 := a3.len
    have hra' : RgW g ra := fun x hx => hra x (by simp [hx])
    have hrb' : RgW g rb := fun x hx => hrb x (by simp [hx])
    obtain ⟨s, g', m', f1, f2, f3, f4, f5, f6⟩ := ites_ls (c := c) ra rb xs ys (i + 1) (out ++ [h]) g1 m1 h3 k3 (by omega) hl a2 (by omega) (by simp; omega) (hc.grow a3) (hra'.grow a3) (hrb'.grow a3) (fun x hx => by
      simp only [List.mem_append, List.mem_singleton] at hx
      rcases hx with hx | rfl
      · exact (hout.grow a3) x hx
      · exact a4)
    refine ⟨h :: s, g', m', Ev.succ ?_, f2, a3.trans f3 (by simp; omega), fun x hx => ?_, by simp [f5], fun ins => ?_⟩
    · simp only [F47_l0, l2_len, lt_dec h2, cond_true, h1, k1, Option.bind_some, wrap_nat h2 hl]
      refine Ev.bind (a := (h, g1, m1)) ?_ ?_
      · simp only [F48]
        exact Ev.bind a1 Ev.pure
      refine Ev.some_bind (appL_small (by omega) (by simp; omega)) ?_
      simpa using f1
    · simp only [List.mem_cons] at hx
      rcases hx with rfl | hx
      · exact a4.grow f3
      · exact f4 x hx
    · have x1 := a5 ins
      have x2 := f6 ins
      dsimp only at x1
      rw [num_ext a3 ins hra', num_ext a3 ins hrb', a3.V hc.2] at x2
      have xh : V ins g' h = bif V ins g c then V ins g a else V ins g b := by rw [f3.V a4.2, x1]
      simp only [num, xh, x2]
      cases V ins g c <;> simp
/-- A word chosen. -/
theorem ite_word {c : Int} {a b : List Int} {g : List T75} {m : List (T75 × Int)} (hG : AG g m) (hg : g.length ≤ 60000) (hc : Rg g c) (ha : okW g a) (hb : okW g b) (hab : a.length = b.length) :
    ∃ s g' m', Ev (fun k => F11 k c a b g m) (s, g', m') ∧ AG g' m' ∧ Grow g g' 48 ∧ okW g' s ∧ s.length = a.length ∧ ∀ ins, num ins g' s = bif V ins g c then num ins g a else num ins g b := by
  have a16 := ha.2.1
  have hl : a.length ≤ maxLen := by simp only [maxLen]; omega
  obtain ⟨s, g', m', f1, f2, f3, f4, f5, f6⟩ := ites_ls (c := c) a b a b 0 [] g m rfl rfl hab hl hG (by omega) (by simp; omega) hc ha.2.2 hb.2.2 (by simp [RgW])
  refine ⟨s, g', m', ?_, f2, by obtain ⟨h, q1, q2, q3⟩ := f3.ex; exact ⟨h, q1, by omega, q3⟩, ⟨by rw [f5]; exact ha.1, by rw [f5]; exact a16, f4⟩, f5, f6⟩
  simp only [F11, F46_eq _ c g m (by omega : g.length ≤ 100000), Option.bind_some, hc, decide_true, Bool.not_true, cond_false]
  refine Ev.bind (a := (s, g', m')) ?_ Ev.pure
  simp only [F47]
  refine Ev.bind (F53_ev (by omega) hl (by omega)) ?_
  simp only [hab, ha, hb, and_self, decide_true, Bool.not_true, cond_false]
  simpa using f1
/-- The value of a literal. -/
theorem F17_eq (k : Nat) {v : List Bool} {l : Int} (hv : v.length ≤ 100000) (h0 : 0 ≤ l) (h1 : l ≤ 2 * v.length + 1) : F17 k v l = some (litV v l) := by
  have e1 : l.tdiv 2 = l / 2 := Int.tdiv_eq_ediv_of_nonneg h0
  have e2 : l.tmod 2 = l % 2 := Int.tmod_eq_emod_of_nonneg h0
  have n : decide (l < 0) = false := by simp; omega
  have n2 : decide (l / 2 > (v.length : Int)) = false := by simp; omega
  simp only [F17, n, cond_false, l4_len, e1, wrap_small (show -1000000000 ≤ l / 2 by omega) (by omega), n2, F17_j0, e2]
  unfold litV
  by_cases h2 : l < 2
  · simp [h2]
  · have hi : (l.toNat / 2 - 1) < v.length := by omega
    have : idx v (IntKind.wrap .i64 (l / 2 - 1)) = some (v.getD (l.toNat / 2 - 1) false) := by
      rw [wrap_small (by omega) (by omega)]
      refine idx_nat (by omega) ?_
      rw [show (l / 2 - 1).toNat = l.toNat / 2 - 1 by omega, List.getElem?_eq_getElem hi, List.getD_eq_getElem?_getD, List.getElem?_eq_getElem hi]
      rfl
    simp only [h2, decide_false, cond_false, this, Option.bind_some, if_false]
    rfl
theorem check_ls {g : List T75} {m : List (T75 × Int)} (hG : AG g m) (hg : g.length ≤ 100000) : ∀ (rest : List T75) (i : Nat), g.drop i = rest → Ev (fun k => F55_l0 k g (i : Int)) 0
  | [], i, hd => by
    refine Ev.succ ?_
    simp only [F55_l0, l75_len, ge_dec (drop_end hd), cond_false]
    exact Ev.pure
  | n :: rest, i, hd => by
    obtain ⟨h1, h2, h3⟩ := idx_drop hd
    have hn : g[i]? = some n := by
      have := h1
      simpa [idx] using this
    have ih := check_ls hG hg rest (i + 1) h3
    have hw := hG.wf i n hn
    have hm : g.length ≤ maxLen := by simp only [maxLen]; omega
    refine Ev.succ ?_
    obtain ⟨x, y⟩ := n
    simp only [F55_l0, l75_len, lt_dec h2, cond_true, h1, Option.bind_some, F45_eq]
    by_cases hin : isIn ⟨x, y⟩ = true
    · have : ((x == -1) && ((y == -1) && true)) = true := hin
      simp only [this, Bool.not_true, cond_false]
      refine Ev.succ ?_
      simp only [F55_j1, cond_false, wrap_nat h2 hm]
      exact ih
    · have e : ((x == -1) && ((y == -1) && true)) = false := by simpa [isIn] using hin
      obtain ⟨w1, w2, w3, w4⟩ := hw.resolve_left hin
      dsimp only at w1 w2 w3 w4
      have c1 : decide (x < 0) = false := by simp; omega
      have c2 : decide (y < 0) = false := by simp; omega
      have c3 : decide (x > 2 * (i : Int) + 1) = false := by simp; omega
      have c4 : decide (y > 2 * (i : Int) + 1) = false := by simp; omega
      simp only [e, Bool.not_false, cond_true, c1, c2, cond_false, wrap_small (show -1000000000 ≤ 2 * (i : Int) by omega) (by omega), wrap_small (show -1000000000 ≤ 2 * (i : Int) + 1 by omega) (by omega), c3, c4]
      refine Ev.succ ?_
      simp only [F55_j1, cond_false, wrap_nat h2 hm]
      exact ih
theorem nI_snoc (p : List T75) (n : T75) : nI (p ++ [n]) = nI p + (bif isIn n then 1 else 0) := by
  unfold nI
  cases h : isIn n <;> simp [List.filter_append, h]
theorem nI_le (p : List T75) : nI p ≤ p.length := List.length_filter_le _ _
theorem eval_ls {ins : List Bool} {g : List T75} {m : List (T75 × Int)} (hG : AG g m) (hg : g.length ≤ 100000) (hi : ins.length ≤ 100000) : ∀ (rest p : List T75), p ++ rest = g → Ev (fun k => F15_l0 k ins g (nI p : Int) (p.length : Int) (vals ins p)) (vals ins g)
  | [], p, hd => by
    subst hd
    refine Ev.succ ?_
    simp only [List.append_nil, F15_l0, l75_len, ge_dec (Nat.le_refl _), cond_false]
    exact Ev.pure
  | n :: rest, p, hd => by
    have hdr : g.drop p.length = n :: rest := by rw [← hd]; simp
    obtain ⟨h1, h2, h3⟩ := idx_drop hdr
    have hn : g[p.length]? = some n := by
      have := h1
      simpa [idx] using this
    have ih := eval_ls hG hg hi rest (p ++ [n]) (by simpa using hd)
    have hw := hG.wf _ n hn
    have hm : g.length ≤ maxLen := by simp only [maxLen]; omega
    have hpl : (p ++ [n]).length = p.length + 1 := by simp
    have hni := nI_le p
    rw [vals_snoc, nI_snoc, hpl] at ih
    refine Ev.succ ?_
    obtain ⟨x, y⟩ := n
    have hvl := vals_len ins p
    simp only [F15_l0, l75_len, lt_dec h2, cond_true, h1, Option.bind_some, F45_eq]
    by_cases hin : isIn ⟨x, y⟩ = true
    · have e : ((x == -1) && ((y == -1) && true)) = true := hin
      simp only [hin, cond_true] at ih
      simp only [e, cond_true, l4_len]
      have fin : ∀ q, Ev (fun k => F15_l0 k ins g ((nI p + 1 : Nat) : Int) ((p.length + 1 : Nat) : Int) q) (vals ins g) → Ev (fun k => F15_j2 k ins g (nI p : Int) (p.length : Int) q) (vals ins g) := fun q hq => by
        refine Ev.succ (Ev.succ ?_)
        simp only [F15_j2, F15_j1, wrap_nat h2 hm, wrap_nat (show nI p < 1000000 by omega) (by simp [maxLen])]
        exact hq
      by_cases hlt : nI p < ins.length
      · have : idx ins (nI p : Int) = some (ins.getD (nI p) false) := by
          refine idx_nat (by omega) ?_
          rw [Int.toNat_natCast, List.getElem?_eq_getElem hlt, List.getD_eq_getElem?_getD, List.getElem?_eq_getElem hlt]
          rfl
        simp only [lt_dec hlt, cond_true, this, Option.bind_some]
        refine Ev.some_bind (appL_small (by omega) (by simp; omega)) ?_
        exact fin _ ih
      · have : ins.getD (nI p) false = false := by
          rw [List.getD_eq_getElem?_getD, List.getElem?_eq_none (by omega)]; rfl
        rw [this] at ih
        simp only [ge_dec (show ins.length ≤ nI p by omega), cond_false]
        refine Ev.some_bind (appL_small (by omega) (by simp; omega)) ?_
        exact fin _ ih
    · have e : ((x == -1) && ((y == -1) && true)) = false := by simpa [isIn] using hin
      have hin' : isIn ⟨x, y⟩ = false := by simpa using hin
      obtain ⟨w1, w2, w3, w4⟩ := hw.resolve_left hin
      dsimp only at w1 w2 w3 w4
      simp only [hin', cond_false, Nat.add_zero] at ih
      have fin : ∀ q, Ev (fun k => F15_l0 k ins g (nI p : Int) ((p.length + 1 : Nat) : Int) q) (vals ins g) → Ev (fun k => F15_j1 k ins g (nI p : Int) (p.length : Int) q) (vals ins g) := fun q hq => by
        refine Ev.succ ?_
        simp only [F15_j1, wrap_nat h2 hm]
        exact hq
      simp only [e, cond_false, F17_eq _ (show (vals ins p).length ≤ 100000 by omega) w1 (by omega), F17_eq _ (show (vals ins p).length ≤ 100000 by omega) w3 (by omega), Option.bind_some]
      cases hv : litV (vals ins p) x
      · have hv' : V ins p x = false := hv
        simp only [cond_false]
        simp only [hv', Bool.false_and] at ih
        refine Ev.some_bind (appL_small (by omega) (by simp; omega)) ?_
        exact fin _ ih
      · have hv' : V ins p x = true := hv
        simp only [cond_true]
        simp only [hv', Bool.true_and] at ih
        refine Ev.some_bind (appL_small (by omega) (by simp; omega)) ?_
        exact fin _ ih
/-- A graph evaluated. -/
theorem eval_ev {ins : List Bool} {g : List T75} {m : List (T75 × Int)} (hG : AG g m) (hg : g.length ≤ 100000) (hi : ins.length ≤ 100000) : Ev (fun k => F15 k g ins) (vals ins g) := by
  simp only [F15]
  refine Ev.bind (a := 0) ?_ ?_
  · have : decide ((g.length : Int) > 1048576) = false := by simp; omega
    simp only [F55, l75_len, this, cond_false]
    exact check_ls hG hg g 0 rfl
  · simp only [show ((0 : Int) != 0) = false from rfl, cond_false]
    exact eval_ls hG hg hi g [] rfl
theorem clone_ev {g : List T75} (m : List (T75 × Int)) (hg : g.length ≤ 100000) (k : Nat) : F16 k g m = some g := by
  simp only [F16, F56, appL_small (show 16 ≤ 1000 by omega) (show ([] : List T75).length + g.length ≤ 1000000 by simp; omega), Option.bind_some, List.nil_append]
/-! ### numbers -/
theorem shl_small : ∀ i : Nat, i < 17 → sft .shl .i64 1 (i : Int) = some ((2 : Int) ^ i) := by decide +kernel
theorem or_pow {a : Int} {i : Nat} (hi : i < 17) (h0 : 0 ≤ a) (h1 : a < 2 ^ i) : bits .or .i64 a (2 ^ i) = a + 2 ^ i := by
  obtain ⟨a, rfl⟩ := Int.eq_ofNat_of_zero_le h0
  have hp : (2 : Nat) ^ i ≤ 2 ^ 16 := Nat.pow_le_pow_right (by omega) (by omega)
  have hp' : (2 : Nat) ^ 16 = 65536 := by decide
  have h1' : a < 2 ^ i := by exact_mod_cast h1
  have e0 : ((2 : Int) ^ i) = ((2 ^ i : Nat) : Int) := by simp
  rw [e0]
  have e1 : ∀ x : Nat, x ≤ 65536 → (BitVec.ofInt 64 (x : Int)).toNat = x := fun x hx => by rw [BitVec.ofInt_natCast, BitVec.toNat_ofNat]; exact Nat.mod_eq_of_lt (by omega)
  have e : bits .or .i64 (a : Int) ((2 ^ i : Nat) : Int) = IntKind.i64.wrap ((a ||| 2 ^ i : Nat) : Int) := by
    show IntKind.i64.wrap ((BitVec.ofInt 64 (a : Int) ||| BitVec.ofInt 64 ((2 ^ i : Nat) : Int)).toNat : Int) = _
    rw [BitVec.toNat_or, e1 _ (by omega), e1 _ (by omega)]
  have h3 : a ||| 2 ^ i = a + 2 ^ i := by
    have := Nat.two_pow_add_eq_or_of_lt h1' 1
    rw [Nat.mul_one] at this
    rw [Nat.or_comm, ← this]; omega
  rw [e, h3]
  exact wrap_small (by omega) (by omega)
theorem number_ls {ins : List Bool} {g : List T75} (hg : g.length ≤ 100000) : ∀ (rest xs : List Int) (i : Nat) (a : Int), xs.drop i = rest → xs.length ≤ 16 → i + rest.length ≤ 16 → 0 ≤ a → a < 2 ^ i → RgW g rest →
    Ev (fun k => F40_l0 k (vals ins g) xs a (i : Int)) (a + 2 ^ i * num ins g rest)
  | [], xs, i, a, hd, hl, hil, h0, h1, hr => by
    refine Ev.succ ?_
    simp only [F40_l0, l2_len, ge_dec (drop_end hd), cond_false, num, Int.mul_zero, Int.add_zero]
    exact Ev.pure
  | l :: rest, xs, i, a, hd, hl, hil, h0, h1, hr => by
    obtain ⟨k1, k2, k3⟩ := idx_drop hd
    simp only [List.length_cons] at hil
    have hrl := hr l (by simp)
    have hr' : RgW g rest := fun x hx => hr x (by simp [hx])
    have hvl := vals_len ins g
    have hm : xs.length ≤ maxLen := by simp only [maxLen]; omega
    have pp : (2 : Int) ^ (i + 1) = 2 * 2 ^ i := by rw [Int.pow_succ, Int.mul_comm]
    refine Ev.succ ?_
    simp only [F40_l0, l2_len, lt_dec k2, cond_true, k1, Option.bind_some, F17_eq _ (show (vals ins g).length ≤ 100000 by omega) hrl.1 (by rw [hvl]; exact hrl.2)]
    have hV : litV (vals ins g) l = V ins g l := rfl
    rw [hV]
    cases hv : V ins g l
    · have ih := number_ls (ins := ins) hg rest xs (i + 1) a k3 hl (by omega) h0 (by omega) hr'
      simp only [cond_false]
      refine Ev.succ ?_
      simp only [F40_j1, wrap_nat k2 hm]
      have e : a + 2 ^ i * num ins g (l :: rest) = a + 2 ^ (i + 1) * num ins g rest := by
        simp only [num, hv, pp]
        simp [Int.mul_assoc, Int.mul_left_comm]
      rw [e]
      exact ih
    · have ih := number_ls (ins := ins) hg rest xs (i + 1) (a + 2 ^ i) k3 hl (by omega) (by omega) (by omega) hr'
      simp only [cond_true, shl_small i (by omega), Option.bind_some, or_pow (show i < 17 by omega) h0 h1]
      refine Ev.succ ?_
      simp only [F40_j1, wrap_nat k2 hm]
      have e : a + 2 ^ i * num ins g (l :: rest) = a + 2 ^ i + 2 ^ (i + 1) * num ins g rest := by
        simp only [num, hv, pp]
        simp [Int.mul_add, Int.mul_assoc, Int.mul_left_comm, Int.add_assoc]
      rw [e]
      exact ih
theorem number_ev {ins : List Bool} {g : List T75} (hg : g.length ≤ 100000) {a : List Int} (ha : okW g a) : Ev (fun k => F40 k (vals ins g) a) (num ins g a) := by
  have h1 := ha.2.1
  have : decide ((a.length : Int) > 16) = false := by simp; omega
  simp only [F40, l2_len, this, cond_false]
  have := number_ls (ins := ins) hg a a 0 0 rfl h1 (by omega) (by omega) (by decide) ha.2.2
  simpa using this
/-- Is the word worth so? -/
theorem is_ev {ins : List Bool} {g : List T75} {m : List (T75 × Int)} (hG : AG g m) (hg : g.length ≤ 100000) (hi : ins.length ≤ 100000) {a : List Int} (ha : okW g a) {w v : Int} (hw : (a.length : Int) = w) (hv : num ins g a = v) : Ev (fun k => F18 k ins a w v g m) true := by
  subst hw hv
  have h1 := ha.2.1
  simp only [F18, l2_len, beq_self_eq_true, cond_true]
  refine Ev.bind (F23_ev (m := m) hg (by simp only [maxLen]; omega)) ?_
  simp only [ha, if_true, beq_self_eq_true, cond_true, clone_ev m hg, Option.bind_some]
  refine Ev.bind (eval_ev hG hg hi) ?_
  refine Ev.bind (number_ev hg ha) ?_
  simp only [beq_self_eq_true]
  exact Ev.pure
theorem awake_ev : Ev (fun k => F19 k) true := by
  refine ⟨80, fun k hk => ?_⟩
  obtain ⟨n, rfl⟩ : ∃ n, k = n + 80 := ⟨k - 80, by omega⟩
  kernel_rfl
end Go.Vm
