/- Words made out of inputs and constants; the law. -/
import Derived.Test.YtjeihigmneepcaaAgE
set_option linter.unusedVariables false
set_option linter.unusedSimpArgs false
set_option linter.unusedSectionVars false
namespace Go.Vm

theorem num_app {g : List T75} (h : List T75) (ins : List Bool) : ∀ {a : List Int}, RgW g a → num ins (g ++ h) a = num ins g a
  | [], _ => rfl
  | l :: r, hr => by
    simp only [num]
    rw [V_ext (hr l (by simp)).2 h, num_app h ins fun l' hl' => hr l' (by simp [hl'])]
theorem Rg.app {g : List T75} {l : Int} (hl : Rg g l) (h : List T75) : Rg (g ++ h) l := ⟨hl.1, by have := hl.2; simp; omega⟩
theorem RgW.app {g : List T75} {a : List Int} (ha : RgW g a) (h : List T75) : RgW (g ++ h) a := fun l hl => (ha l hl).app h
theorem AG.input {g : List T75} {m : List (T75 × Int)} (hG : AG g m) : AG (g ++ [⟨-1, -1⟩]) m where
  wf i n hn := by
    rcases Nat.lt_or_ge i g.length with h | h
    · rw [List.getElem?_append_left h] at hn
      exact hG.wf i n hn
    · rw [List.getElem?_append_right h] at hn
      have : i - g.length = 0 := by
        rcases Nat.eq_zero_or_pos (i - g.length) with z | z
        · exact z
        · rw [List.getElem?_eq_none (by simp; omega)] at hn; cases hn
      rw [this] at hn
      simp only [List.getElem?_cons_zero, Option.some.injEq] at hn
      subst hn
      exact .inl rfl
  tab p hp := by
    obtain ⟨i, h1, h2, h3⟩ := hG.tab p hp
    refine ⟨i, h1, ?_, h3⟩
    rw [List.getElem?_append_left (List.getElem?_eq_some_iff.1 h2).1]
    exact h2
theorem V_input (ins : List Bool) (g : List T75) : V ins (g ++ [⟨-1, -1⟩]) (2 * ((g.length : Int) + 1)) = ins.getD (nI g) false := by
  unfold V
  rw [vals_snoc]
  have h1 : isIn ⟨-1, -1⟩ = true := rfl
  have hv := vals_len ins g
  simp only [h1, cond_true]
  unfold litV
  have h2 : ¬ (2 * ((g.length : Int) + 1) < 2) := by omega
  have h3 : (2 * ((g.length : Int) + 1)).toNat / 2 - 1 = (vals ins g).length := by omega
  have h4 : (2 * ((g.length : Int) + 1)) % 2 = 0 := by omega
  rw [if_neg h2, h3, h4]
  simp [List.getD_eq_getElem?_getD]
theorem F10_eq (k : Nat) (g : List T75) (m : List (T75 × Int)) (hg : g.length ≤ 90000) : F10 k g m = some (2 * ((g.length : Int) + 1), g ++ [⟨-1, -1⟩]) := by
  have : decide ((g.length : Int) ≥ 1048576) = false := by simp; omega
  simp only [F10, F10_j0, F45_eq, Option.bind_some, F44, l75_len, this, cond_false, appL_small (show 16 ≤ 1000 by omega) (show g.length + [(⟨-1, -1⟩ : T75)].length ≤ 1000000 by simp; omega)]
  simp only [List.length_append, List.length_singleton]
  rw [wrap_small (by omega) (by omega)]
  rfl
theorem bit_ls : ∀ (n j : Nat) (b : Nat) (v : Int), j + n = b → b ≤ 100 → 0 ≤ v → v ≤ 1000000 → Ev (fun k => F71_l0 k (b : Int) v (j : Int)) (v / 2 ^ n % 2)
  | 0, j, b, v, hj, hb, h0, h1 => by
    subst hj
    refine Ev.succ ?_
    simp only [Nat.add_zero, F71_l0, ge_dec (Nat.le_refl _), cond_false, Int.tmod_eq_emod_of_nonneg h0, Int.pow_zero, Int.ediv_one]
    exact Ev.pure
  | n + 1, j, b, v, hj, hb, h0, h1 => by
    have ih := bit_ls n (j + 1) b (v / 2) (by omega) hb (by omega) (by omega)
    refine Ev.succ ?_
    simp only [F71_l0, lt_dec (show j < b by omega), cond_true, Int.tdiv_eq_ediv_of_nonneg h0, wrap_small (show -1000000000 ≤ v / 2 by omega) (by omega), wrap_small (show -1000000000 ≤ (j : Int) + 1 by omega) (by omega)]
    have e : v / 2 ^ (n + 1) = v / 2 / 2 ^ n := by
      rw [Int.pow_succ, Int.mul_comm, Int.ediv_ediv_of_nonneg (by omega : (0 : Int) ≤ 2)]
    rw [e]
    exact ih
theorem bit_ev {b : Nat} {v : Int} (hb : b ≤ 100) (h0 : 0 ≤ v) (h1 : v ≤ 1000000) : Ev (fun k => F71 k v (b : Int)) (v / 2 ^ b % 2) := by
  simp only [F71]
  exact bit_ls b 0 b v (by omega) hb h0 h1
theorem modP (x P : Int) (hP : 0 < P) : x % (2 * P) = x % 2 + 2 * (x / 2 % P) := by
  have h1 := Int.mul_ediv_add_emod (x / 2) P
  have h2 := Int.emod_nonneg (x / 2) (show P ≠ 0 by omega)
  have h3 := Int.emod_lt_of_pos (x / 2) hP
  have e : x = (x % 2 + 2 * (x / 2 % P)) + 2 * P * (x / 2 / P) := by
    have : 2 * P * (x / 2 / P) = 2 * (P * (x / 2 / P)) := by rw [Int.mul_assoc]
    omega
  rw [show x % (2 * P) = ((x % 2 + 2 * (x / 2 % P)) + 2 * P * (x / 2 / P)) % (2 * P) by rw [← e], Int.add_mul_emod_self_left]
  exact Int.emod_eq_of_lt (by omega) (by omega)
theorem wrap_u64 : ∀ i : Nat, i < 17 → IntKind.wrap .u64 (i : Int) = (i : Int) := by decide +kernel
theorem word_ls {v fx : Int} {m : List (T75 × Int)} (hv0 : 0 ≤ v) (hv1 : v ≤ 1000000) {w : Nat} (hw : w ≤ 16) : ∀ (n i : Nat) (out : List Int) (ins : List Bool) (g : List T75), i + n = w → AG g m → g.length + n ≤ 60000 → nI g = ins.length → ins.length + n ≤ 60000 → out.length = i → RgW g out →
    ∃ s t h, Ev (fun k => F42_l0 k v (w : Int) fx m ins (i : Int) g out) (out ++ s, ins ++ t, g ++ h) ∧ AG (g ++ h) m ∧ h.length ≤ n ∧ nI (g ++ h) = (ins ++ t).length ∧ RgW (g ++ h) s ∧ s.length = n ∧ t.length ≤ n ∧ ∀ more, num (ins ++ t ++ more) (g ++ h) s = v / 2 ^ i % 2 ^ n
  | 0, i, out, ins, g, hi, hG, hg, hn, hil, ho, hr => by
    refine ⟨[], [], [], Ev.succ ?_, by simpa using hG, Nat.le_refl _, by simpa using hn, by simp [RgW], rfl, Nat.le_refl _, fun more => by simp [num]⟩
    subst hi
    simp only [Nat.add_zero, F42_l0, ge_dec (Nat.le_refl _), cond_false, List.append_nil]
    exact Ev.pure
  | n + 1, i, out, ins, g, hi, hG, hg, hn, hil, ho, hr => by
    have hlt : i < w := by omega
    have hm : w ≤ maxLen := by simp only [maxLen]; omega
    have bp : (0 : Int) < 2 ^ n := Int.pow_pos (by omega)
    have b01 : 0 ≤ v / 2 ^ i % 2 ∧ v / 2 ^ i % 2 ≤ 1 := by omega
    have em : ∀ y, (if (v / 2 ^ i % 2 == 1) then 1 else 0) + 2 * y = v / 2 ^ i % 2 + 2 * y := fun y => by
      by_cases h : v / 2 ^ i % 2 = 1
      · simp [h]
      · have : v / 2 ^ i % 2 = 0 := by omega
        simp [this]
    have hp : v / 2 ^ i % 2 ^ (n + 1) = v / 2 ^ i % 2 + 2 * (v / 2 ^ (i + 1) % 2 ^ n) := by
      have e1 : (2 : Int) ^ (n + 1) = 2 * 2 ^ n := by rw [Int.pow_succ, Int.mul_comm]
      have e2 : v / 2 ^ (i + 1) = v / 2 ^ i / 2 := by
        rw [Int.pow_succ, Int.ediv_ediv_of_nonneg (Int.le_of_lt (Int.pow_pos (by omega)))]
      rw [e1, e2]
      exact modP _ _ bp
    have sh : ∃ q, sft .shr .u32 fx (IntKind.wrap .u64 (i : Int)) = some q := by
      rw [wrap_u64 i (by omega)]
      exact ⟨_, by simp only [sft]; rw [if_pos (by omega)]⟩
    obtain ⟨q, hq⟩ := sh
    by_cases hc : (q.tmod 2 == 1) = true
    · have hrb : Rg g (v / 2 ^ i % 2) := ⟨by omega, by omega⟩
      obtain ⟨s, t, h, f1, f2, f3, f4, f5, f6, f7, f8⟩ := word_ls (fx := fx) hv0 hv1 hw n (i + 1) (out ++ [v / 2 ^ i % 2]) ins g (by omega) hG (by omega) hn (by omega) (by simp [ho]) (fun x hx => by
        simp only [List.mem_append, List.mem_singleton] at hx
        rcases hx with hx | rfl
        · exact hr x hx
        · exact hrb)
      refine ⟨v / 2 ^ i % 2 :: s, t, h, Ev.succ ?_, f2, by omega, f4, fun x hx => ?_, by simp [f6], by omega, fun more => ?_⟩
      · simp only [F42_l0, lt_dec hlt, cond_true]
        refine Ev.bind (bit_ev (by omega) hv0 hv1) ?_
        simp only [hq, Option.bind_some, hc, cond_true]
        refine Ev.some_bind (appL_small (by omega) (by simp; omega)) ?_
        refine Ev.succ ?_
        simp only [F42_j1, wrap_nat hlt hm]
        simpa using f1
      · simp only [List.mem_cons] at hx
        rcases hx with rfl | hx
        · exact hrb.app h
        · exact f5 x hx
      · simp only [num]
        rw [f8 more, hp, ← em]
        have : V (ins ++ t ++ more) (g ++ h) (v / 2 ^ i % 2) = (v / 2 ^ i % 2 == 1) := by
          unfold V litV
          rw [if_pos (by omega)]
        rw [this]
    · have hc' : (q.tmod 2 == 1) = false := by simpa using hc
      have hG' := hG.input
      have hrb : Rg (g ++ [⟨-1, -1⟩]) (2 * ((g.length : Int) + 1)) := ⟨by omega, by simp; omega⟩
      obtain ⟨s, t, h, f1, f2, f3, f4, f5, f6, f7, f8⟩ := word_ls (fx := fx) hv0 hv1 hw n (i + 1) (out ++ [2 * ((g.length : Int) + 1)]) (ins ++ [v / 2 ^ i % 2 == 1]) (g ++ [⟨-1, -1⟩]) (by omega) hG' (by simp; omega) (by rw [nI_snoc, show isIn ⟨-1, -1⟩ = true from rfl]; simp [hn]) (by simp; omega) (by simp [ho]) (fun x hx => by
        simp only [List.mem_append, List.mem_singleton] at hx
        rcases hx with hx | rfl
        · exact (hr x hx).app _
        · exact hrb)
      refine ⟨2 * ((g.length : Int) + 1) :: s, (v / 2 ^ i % 2 == 1) :: t, ⟨-1, -1⟩ :: h, Ev.succ ?_, by simpa using f2, by simp; omega, by simpa using f4, fun x hx => ?_, by simp [f6], by simp; omega, fun more => ?_⟩
      · simp only [F42_l0, lt_dec hlt, cond_true]
        refine Ev.bind (bit_ev (by omega) hv0 hv1) ?_
        simp only [hq, Option.bind_some, hc', cond_false, F10_eq _ g m (show g.length ≤ 90000 by omega)]
        refine Ev.some_bind (appL_small (by omega) (by simp; omega)) ?_
        refine Ev.some_bind (appL_small (by omega) (by simp; omega)) ?_
        refine Ev.some_bind (appL_small (by omega) (by simp; omega)) ?_
        refine Ev.succ ?_
        simp only [F42_j1, wrap_nat hlt hm]
        simpa using f1
      · simp only [List.mem_cons] at hx
        rw [show g ++ ⟨-1, -1⟩ :: h = g ++ [⟨-1, -1⟩] ++ h by simp]
        rcases hx with rfl | hx
        · exact hrb.app h
        · exact f5 x hx
      · have x8 := f8 more
        rw [show ins ++ (v / 2 ^ i % 2 == 1) :: t ++ more = ins ++ [v / 2 ^ i % 2 == 1] ++ t ++ more by simp, show g ++ ⟨-1, -1⟩ :: h = g ++ [⟨-1, -1⟩] ++ h by simp]
        simp only [num]
        rw [x8, hp, ← em]
        have : V (ins ++ [v / 2 ^ i % 2 == 1] ++ t ++ more) (g ++ [⟨-1, -1⟩] ++ h) (2 * ((g.length : Int) + 1)) = (v / 2 ^ i % 2 == 1) := by
          rw [V_ext hrb.2 h, V_input, hn]
          simp [List.getD_eq_getElem?_getD]
        rw [this]
theorem pow_w : ∀ w : Nat, w < 17 → sft .shl .i64 1 (w : Int) = some ((2 : Int) ^ w) := shl_small
theorem F9_eq (k : Nat) {v : Int} {w : Nat} (hw : w < 17) (h0 : 0 ≤ v) : F9 k v (w : Int) = some (v % 2 ^ w) := by
  have hp : (0 : Int) < 2 ^ w := Int.pow_pos (by omega)
  have h1 : (2 : Int) ^ w ≠ 0 := by omega
  have h2 : decide (v % 2 ^ w < 0) = false := by have := Int.emod_nonneg v h1; simp; omega
  simp only [F9, F43, pow_w w hw, Option.bind_some, dvi, if_neg h1, Int.tmod_eq_emod_of_nonneg h0, h2, cond_false]
end Go.Vm
